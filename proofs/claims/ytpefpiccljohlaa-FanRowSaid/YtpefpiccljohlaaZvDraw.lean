/- Regions that draw their order. -/
import Derived.Test.YtpefpiccljohlaaZvRunD
import Derived.Orders
namespace Go.Vs
open Go.RowKit

/-- The temporaries that an instruction looks at. -/
def O.use : O → List Nat
  | .t n => [n]
  | _ => []
def usesO (l : List O) : List Nat := l.flatMap O.use
def useOo : Option O → List Nat
  | none => []
  | some o => o.use

def I.uses : I → List Nat
  | .mov a => a.use
  | .pick a b c => a.use ++ b.use ++ c.use
  | .new _ _ => []
  | .box _ a => a.use
  | .build _ ps => ps.flatMap fun p => p.2.2.use
  | .mks _ _ _ _ _ _ ps => ps.flatMap fun p => p.2.use
  | .load _ _ a => a.use
  | .store _ a b => a.use ++ b.use
  | .nilck a => a.use
  | .bin _ _ a b => a.use ++ b.use
  | .un _ a => a.use
  | .cvi _ a => a.use
  | .cvs a => a.use
  | .s2b _ a => a.use
  | .b2s a => a.use
  | .arrp _ _ a => a.use
  | .mki _ a => a.use
  | .mkf _ a b => usesO a ++ usesO b
  | .mkm => []
  | .mksl _ _ _ _ a b => a.use ++ b.use
  | .slc _ _ a b c d => a.use ++ useOo b ++ useOo c ++ useOo d
  | .slca _ _ _ a b c d => a.use ++ useOo b ++ useOo c ++ useOo d
  | .fad _ a => a.use
  | .fld _ _ _ a => a.use
  | .iad _ a b => a.use ++ b.use
  | .iada _ _ a b => a.use ++ b.use
  | .idxs a b => a.use ++ b.use
  | .idxa _ _ _ a b => a.use ++ b.use
  | .look _ _ a b _ => a.use ++ b.use
  | .upd _ a b c => a.use ++ b.use ++ c.use
  | .asrt _ _ a _ => a.use
  | .ext a _ => a.use
  | .len _ a => a.use
  | .lenc _ => []
  | .app _ _ _ _ a b => a.use ++ b.use
  | .cpy _ a b => a.use ++ b.use
  | .clr _ a => a.use
  | .max a b => a.use ++ b.use
  | .min a b => a.use ++ b.use
  | .call a l => a.use ++ usesO l
  | .inv a _ l => a.use ++ usesO l
  | .dfr a l => a.use ++ usesO l
  | .pan a => a.use
  | .recov => []
  | .pne a b => a.use ++ b.use
  | .toU a => a.use
  | .frU _ _ a => a.use
  | .noEsc a => a.use
  | .sld a => a.use
  | .ustr _ a b => a.use ++ b.use

def A.looks (b : A) : List Nat := b.i.uses ++ (match b.g with | some (d, _) => [d] | none => [])

/-- Looks at no block. -/
def I.silent : I → Bool
  | .mov _ | .pick .. | .build .. | .bin .. | .un .. | .cvi .. | .cvs _ | .arrp .. | .mki .. | .mkf .. | .slc .. | .fad .. | .fld .. | .iad .. | .iada .. | .idxs .. | .idxa .. | .ext .. | .lenc _ | .max .. | .min .. | .nilck _ | .asrt .. | .noEsc _ | .sld _ => true
  | .mks fz _ _ _ _ _ _ => fz
  | .s2b fz _ => fz
  | .len q _ => q != .map
  | _ => false

/-- Looks at blocks, and changes none. -/
def I.reads : I → Bool
  | .load .. | .look .. | .len .. | .b2s _ | .slca .. | .toU _ | .frU .. => true
  | i => i.silent

section
variable {x : X}

theorem ev_congr {t t' : Nat → V} {a : O} (h : ∀ n ∈ a.use, t n = t' n) : a.ev x t = a.ev x t' := by
  cases a with
  | t n => exact h n (by simp [O.use])
  | _ => rfl

theorem evs_congr {t t' : Nat → V} {l : List O} (h : ∀ n ∈ usesO l, t n = t' n) : evs x t l = evs x t' l := by
  unfold evs
  exact List.map_congr_left fun a ha => ev_congr fun n hn => h n (by unfold usesO; exact List.mem_flatMap.2 ⟨a, ha, hn⟩)

theorem bnd_congr {t t' : Nat → V} {d : Nat} {o : Option O} (h : ∀ n ∈ useOo o, t n = t' n) : bnd x t d o = bnd x t' d o := by
  cases o with
  | none => rfl
  | some a => simp only [bnd, ev_congr (x := x) (t := t) (t' := t') (a := a) h]

theorem aop_congr {t t' : Nat → V} {h : Hp} {i : I} (hh : ∀ n ∈ i.uses, t n = t' n) : aop x t h i = aop x t' h i := by
  cases i
  case build z ps =>
    have : (ps.map fun (o, n, a) => (o, n, O.ev x t a)) = (ps.map fun (o, n, a) => (o, n, O.ev x t' a)) :=
      List.map_congr_left fun p hp => by
        obtain ⟨o, n, a⟩ := p
        simp only [Prod.mk.injEq, true_and]
        exact ev_congr fun k hk => hh k (List.mem_flatMap.2 ⟨_, hp, hk⟩)
    simp only [aop, this]
  case mks fz es bt ag z len ps =>
    have : (ps.map fun (i, a) => (i * es, es, O.ev x t a)) = (ps.map fun (i, a) => (i * es, es, O.ev x t' a)) :=
      List.map_congr_left fun p hp => by
        obtain ⟨o, a⟩ := p
        simp only [Prod.mk.injEq, true_and]
        exact ev_congr fun k hk => hh k (List.mem_flatMap.2 ⟨_, hp, hk⟩)
    simp only [aop, this]
  case new => rfl
  case mkm => rfl
  case lenc => rfl
  case recov => rfl
  all_goals
    simp only [I.uses, List.mem_append] at hh
    simp only [aop]
    first
      | (rename_i a; rw [ev_congr (x := x) (a := a) fun n hn => hh n (by first | exact hn | exact .inl hn)]; done)
      | (rename_i a b; rw [ev_congr (x := x) (a := a) fun n hn => hh n hn]; done)
      | (rename_i a b; rw [ev_congr (x := x) (a := b) fun n hn => hh n hn]; done)
      | (rename_i a b; rw [ev_congr (x := x) (a := a) fun n hn => hh n (.inl hn), ev_congr (x := x) (a := b) fun n hn => hh n (.inr hn)]; done)
      | (rename_i a b; rw [ev_congr (x := x) (a := a) fun n hn => hh n (.inl hn), evs_congr (x := x) (l := b) fun n hn => hh n (.inr hn)]; done)
      | (rename_i a m b; rw [ev_congr (x := x) (a := a) fun n hn => hh n (.inl hn), evs_congr (x := x) (l := b) fun n hn => hh n (.inr hn)]; done)
      | (rename_i a b; rw [evs_congr (x := x) (l := a) fun n hn => hh n (.inl hn), evs_congr (x := x) (l := b) fun n hn => hh n (.inr hn)]; done)
      | (rename_i a b c; rw [ev_congr (x := x) (a := a) fun n hn => hh n (.inl (.inl hn)), ev_congr (x := x) (a := b) fun n hn => hh n (.inl (.inr hn)), ev_congr (x := x) (a := c) fun n hn => hh n (.inr hn)]; done)
      | (rename_i a b ok; rw [ev_congr (x := x) (a := a) fun n hn => hh n (.inl hn), ev_congr (x := x) (a := b) fun n hn => hh n (.inr hn)]; done)
      | (rename_i a ok; rw [ev_congr (x := x) (a := a) fun n hn => hh n hn]; done)
      | (rename_i a b c d
         have e0 := ev_congr (x := x) (t := t) (t' := t') (a := a) fun n hn => hh n (.inl (.inl (.inl hn)))
         have e1 : ∀ dd, bnd x t dd b = bnd x t' dd b := fun dd => bnd_congr fun n hn => hh n (.inl (.inl (.inr hn)))
         have e2 : ∀ dd, bnd x t dd c = bnd x t' dd c := fun dd => bnd_congr fun n hn => hh n (.inl (.inr hn))
         have e3 : ∀ dd, bnd x t dd d = bnd x t' dd d := fun dd => bnd_congr fun n hn => hh n (.inr hn)
         cases c <;> cases d <;> simp only [Option.map_some, Option.map_none, e0, e1, e2, e3])

/-! ### operations that leave the heap alone -/
def Rz.v : Rz → Option V
  | .val v _ => some v
  | _ => none

theorem mapv {α : Type} (o : Option α) (f : α → V) (h : Hp) : o.map (fun a => Rz.val (f a) h) = ((o.map fun a => Rz.val (f a) []).bind Rz.v).map fun v => .val v h := by cases o <;> rfl

theorem silent_eq {t : Nat → V} {i : I} (hs : i.silent = true) (h : Hp) : aop x t h i = ((aop x t [] i).bind Rz.v).map fun v => .val v h := by
  cases i
  case mks fz es bt ag z len ps =>
    have : fz = true := hs
    subst this
    simp only [aop]
    split <;> rfl
  case s2b fz a =>
    have : fz = true := hs
    subst this
    simp only [aop]
    split <;> rfl
  case len q a =>
    have hq : q ≠ .map := by simpa [I.silent] using hs
    simp only [aop]
    have : lenV h q (a.ev x t) = lenV [] q (a.ev x t) := by
      unfold lenV
      split <;> first | rfl | (rw [if_neg hq, if_neg hq])
    rw [this]
    exact mapv _ _ h
  all_goals first
    | (cases hs; done)
    | (simp only [aop]; (repeat' split) <;> first | rfl | exact mapv _ _ h)

theorem reads_eq {t : Nat → V} {i : I} (hs : i.reads = true) {h : Hp} {rz : Rz} (hr : aop x t h i = some rz) : ∃ v, rz = .val v h := by
  cases hsi : i.silent with
  | true =>
    rw [silent_eq hsi h] at hr
    simp only [Option.map_eq_some_iff] at hr
    obtain ⟨v, _, rfl⟩ := hr
    exact ⟨v, rfl⟩
  | false =>
    cases i
    case load n ag a => simp only [aop, Option.map_eq_some_iff] at hr; obtain ⟨v, _, rfl⟩ := hr; exact ⟨v, rfl⟩
    case len q a => simp only [aop, Option.map_eq_some_iff] at hr; obtain ⟨v, _, rfl⟩ := hr; exact ⟨v, rfl⟩
    case look q z a b ok =>
      simp only [aop] at hr
      split at hr
      · cases hr; exact ⟨_, rfl⟩
      · split at hr
        · simp only [Option.map_eq_some_iff] at hr; obtain ⟨v, _, rfl⟩ := hr; exact ⟨_, rfl⟩
        · cases hr
      · cases hr
    case b2s a =>
      simp only [aop] at hr
      split at hr
      · cases hr
      · split at hr
        · split at hr
          · cases hr; exact ⟨_, rfl⟩
          · cases hr
        · cases hr
    case toU a =>
      simp only [aop] at hr
      split at hr
      · cases hr; exact ⟨_, rfl⟩
      · split at hr
        · cases hr; exact ⟨_, rfl⟩
        · cases hr
      · cases hr
    case frU ty n a =>
      simp only [aop] at hr
      split at hr
      · cases hr; exact ⟨_, rfl⟩
      · split at hr
        · split at hr
          · cases hr; exact ⟨_, rfl⟩
          · cases hr
        · cases hr
      · cases hr
    case slca n es ag a lo hi mx =>
      simp only [aop] at hr
      split at hr
      · split at hr
        · split at hr
          · split at hr
            · cases hr; exact ⟨_, rfl⟩
            · cases hr
          · simp only [Option.map_eq_some_iff] at hr; obtain ⟨v, _, rfl⟩ := hr; exact ⟨_, rfl⟩
          · cases hr
        · cases hr
      · cases hr
    all_goals first
      | (exact absurd hs (by simp [I.reads, hsi]))
      | (simp [I.reads, I.silent] at hs hsi; done)
      | (simp [I.reads, I.silent] at hs hsi; exact absurd hs (by simp [hsi]))

end
end Go.Vs
