/- Behind a call: what it made is frozen, and no block of it is told any more. -/
import Derived.Test.YtpefpiccljohlaaZvSimp
namespace Go.Vs
open Go.RowKit

/-- Speaks of no block from k on. -/
inductive Low (k : Nat) : V → Prop
  | bool (b : Bool) : Low k (.bool b)
  | int (j : IntKind) (n : Int) : Low k (.int j n)
  | str (s : List UInt8) : Low k (.str s)
  | nptr : Low k .nptr
  | ptr (b o : Nat) (h : b < k) : Low k (.ptr b o)
  | fp (cs : List V) (off : Nat) (h : ∀ c ∈ cs, Low k c) : Low k (.fp cs off)
  | nsl : Low k .nsl
  | sl (b off len cap : Nat) (ex : Bool) (es : Nat) (ag : Bool) (h : b < k) : Low k (.sl b off len cap ex es ag)
  | lst (ex : Bool) (xs : List V) (h : ∀ c ∈ flat xs, Low k c) : Low k (.lst ex xs)
  | nmap : Low k .nmap
  | map (b : Nat) (h : b < k) : Low k (.map b)
  | nfn : Low k .nfn
  | fn (f : Fn) (a b : List V) (h1 : ∀ c ∈ a, Low k c) (h2 : ∀ c ∈ b, Low k c) : Low k (.fn f a b)
  | ifc (t : TypeId) (v : V) (h : Low k v) : Low k (.ifc t v)
  | nifc : Low k .nifc
  | agg (cs : List V) (h : ∀ c ∈ cs, Low k c) : Low k (.agg cs)
  | tup (cs : List V) (h : ∀ c ∈ cs, Low k c) : Low k (.tup cs)

/-- The same value, where the blocks from k on are frozen. -/
inductive Ice (h : Hp) (k : Nat) : V → V → Prop
  | low (v : V) (hl : Low k v) : Ice h k v v
  | sl (b off len cap : Nat) (ex : Bool) (es : Nat) (ag : Bool) (cs : List V) (ty : Option TypeId) (l l' : List V) (hb : k ≤ b) (hg : hget h b = some (.cells cs ty)) (hs : sub cs off (len * es) = some l) (hag : ag = false → es = 1)
      (hl : l'.length = l.length) (hi : ∀ (j : Nat) x y, l[j]? = some x → l'[j]? = some y → Ice h k x y) (h1 : ∀ x ∈ l', x.one = true) : Ice h k (.sl b off len cap ex es ag) (.lst false (chunk es ag len l'))
  | ptr (b o : Nat) (cs cs' : List V) (ty : Option TypeId) (hb : k ≤ b) (hg : hget h b = some (.cells cs ty)) (hl : cs'.length = cs.length) (hi : ∀ (j : Nat) x y, cs[j]? = some x → cs'[j]? = some y → Ice h k x y) : Ice h k (.ptr b o) (.fp cs' o)
  | agg (cs cs' : List V) (hl : cs'.length = cs.length) (hi : ∀ (j : Nat) x y, cs[j]? = some x → cs'[j]? = some y → Ice h k x y) : Ice h k (.agg cs) (.agg cs')
  | tup (cs cs' : List V) (hl : cs'.length = cs.length) (hi : ∀ (j : Nat) x y, cs[j]? = some x → cs'[j]? = some y → Ice h k x y) : Ice h k (.tup cs) (.tup cs')
  | ifc (t : TypeId) (x y : V) (hi : Ice h k x y) : Ice h k (.ifc t x) (.ifc t y)

open Classical in
noncomputable def Env.ices (E : Env) (w : World) (k : Nat) : Env where
  n := k
  mu β := if β < k then E.mu β else none
  old := E.old
  frz b o := if ∃ β l, k ≤ β ∧ E.mu β = some l ∧ l.own b o then w.cell? ⟨b, o, none⟩ else E.frz b o

section
variable {w0 w : World} {E : Env} {h : Hp} {k : Nat}

theorem ices_frz (H : SR w0 E h w) {b o : Nat} {v : Value} (hf : E.frz b o = some v) : (E.ices w k).frz b o = some v := by
  simp only [Env.ices]
  split
  · exact H.frz b o v hf
  · exact hf

theorem ices_mu {β : Nat} {l : Loc} (hm : (E.ices w k).mu β = some l) : β < k ∧ E.mu β = some l := by
  simp only [Env.ices] at hm
  split at hm
  · exact ⟨‹_›, hm⟩
  · cases hm

theorem VR.low (H : SR w0 E h w) {x : V} {v : Value} (hv : VR E x v) (hl : Low k x) : VR (E.ices w k) x v := by
  induction hv with
  | bool b => exact .bool b
  | int k n => exact .int k n
  | str s => exact .str s
  | nptr => exact .nptr
  | ptr β o a hn h =>
    cases hl with
    | ptr _ _ hb => exact .ptr β o a hb fun l hm => h l (ices_mu hm).2
  | fp cs off b p vals h1 _ h3 ih =>
    cases hl with
    | fp _ _ hc => exact .fp cs off b p vals (fun j hj => ices_frz H (h1 j hj)) (fun j hj => ih j hj (hc _ (List.getElem_mem hj))) h3
  | nsl => exact .nsl
  | sl β off len cap ex es ag a cap' hn hle hc hex h =>
    cases hl with
    | sl _ _ _ _ _ _ _ hb => exact .sl β off len cap ex es ag a cap' hb hle hc hex fun l hm => h l (ices_mu hm).2
  | lst ex xs es a b p cap vals hc hex hes ha h1 _ h3 ih =>
    cases hl with
    | lst _ _ hcs => exact .lst ex xs es a b p cap vals hc hex hes ha (fun j hj => ices_frz H (h1 j hj)) (fun j hj => ih j hj (hcs _ (List.getElem_mem hj))) h3
  | nmap => exact .nmap
  | map β r hn h =>
    cases hl with
    | map _ hb => exact .map β r hb fun l hm => h l (ices_mu hm).2
  | fn f first cap first' cap' hl1 hl2 _ _ ih1 ih2 =>
    cases hl with
    | fn _ _ _ g1 g2 => exact .fn f first cap first' cap' hl1 hl2 (fun j x v hx hv => ih1 j x v hx hv (g1 _ (List.mem_of_getElem? hx))) (fun j x v hx hv => ih2 j x v hx hv (g2 _ (List.mem_of_getElem? hx)))
  | nfn => exact .nfn
  | ifc t x v _ ih =>
    cases hl with
    | ifc _ _ g => exact .ifc t x v (ih g)
  | nifc => exact .nifc
  | agg cs vs hle _ h1 ih =>
    cases hl with
    | agg _ g => exact .agg cs vs hle (fun j x v hx hv => ih j x v hx hv (g _ (List.mem_of_getElem? hx))) h1
  | tup cs vs hle _ ih =>
    cases hl with
    | tup _ g => exact .tup cs vs hle (fun j x v hx hv => ih j x v hx hv (g _ (List.mem_of_getElem? hx)))

/-- The heap is cut off. -/
theorem SR.ices (H : SR w0 E h w) (hk : k ≤ h.length) (hlow : ∀ β, β < k → ∀ b, hget h β = some b → match b with
    | .cells cs _ => ∀ c ∈ cs, Low k c
    | .map es => ∀ e ∈ es, Low k e.1 ∧ Low k e.2) : SR w0 (E.ices w k) (h.take k) w := by
  refine ⟨by simp [Env.ices, hk], H.below, fun b o v hf => ?_, fun β y hy => ?_, fun β l hm => ?_, fun β β' l l' b o h1 h2 o1 o2 => ?_, fun β l b o hm ho => ?_, fun b o ho => ⟨(H.old b o ho).1, ?_, fun β l hm => (H.old b o ho).2.2 β l (ices_mu hm).2⟩⟩
  · simp only [Env.ices] at hf
    split at hf
    · exact hf
    · exact H.frz b o v hf
  · have hβ : β < k := by
      rcases Nat.lt_or_ge β k with h' | h'
      · exact h'
      · rw [List.getElem?_eq_none (by simp; omega)] at hy; cases hy
    rw [List.getElem?_take_of_lt hβ] at hy
    obtain ⟨l, hm, hr⟩ := H.blk β y hy
    have hg : hget h β = some y := by unfold hget; rw [hy]; rfl
    have hlo := hlow β hβ y hg
    refine ⟨l, by simp only [Env.ices]; rw [if_pos hβ]; exact hm, ?_⟩
    cases y with
    | cells cs ty =>
      obtain ⟨g0, g1, g2, g3, g4⟩ := hr
      exact ⟨g0, g1, g2, g3, fun j hj => let ⟨a1, v, a2, a3, a4⟩ := g4 j hj; ⟨a1, v, a2, a3.low H (hlo _ (List.getElem_mem hj)), a4⟩⟩
    | map es =>
      obtain ⟨g1, g0, g2, ms, clock, g3, g4, g5⟩ := hr
      exact ⟨g1, g0, g2, ms, clock, g3, g4, fun j e m he hm => ⟨(g5 j e m he hm).1.low H (hlo _ (List.mem_of_getElem? he)).1, (g5 j e m he hm).2.low H (hlo _ (List.mem_of_getElem? he)).2⟩⟩
  · obtain ⟨hβ, hm⟩ := ices_mu hm
    obtain ⟨x, hx⟩ := H.non β l hm
    exact ⟨x, by rw [List.getElem?_take_of_lt hβ]; exact hx⟩
  · exact H.dis β β' l l' b o (ices_mu h1).2 (ices_mu h2).2 o1 o2
  · obtain ⟨hβ, hm⟩ := ices_mu hm
    simp only [Env.ices]
    rw [if_neg]
    · exact H.dfr β l b o hm ho
    · rintro ⟨β', l', h1, h2, h3⟩
      have := H.dis β β' l l' b o hm h2 ho h3
      omega
  · simp only [Env.ices]
    rw [if_neg]
    · exact (H.old b o ho).2.1
    · rintro ⟨β', l', h1, h2, h3⟩
      exact (H.old b o ho).2.2 β' l' h2 h3

theorem VR.ice (H : SR w0 E h w) {x y : V} (hi : Ice h k x y) : ∀ {v : Value}, VR E x v → VR (E.ices w k) y v := by
  induction hi with
  | low v hl => exact fun hv => hv.low H hl
  | sl b off len cap ex es ag cs ty l l' hb hg hs hag hl _ h1 ih =>
    intro v hv
    obtain ⟨lc, hm, hbr⟩ := H.live hg
    obtain ⟨vs, hrow⟩ := BR.row hbr hs
    obtain ⟨hle, hln, _⟩ := sub_spec hs
    cases hv with
    | sl _ _ _ _ _ _ _ a cap' hn hlc hcc hex hh =>
      obtain ⟨q1, q2⟩ := hh lc hm
      refine VR.lst_of (vs := vs) (b := lc.b) (p := lc.base + off) (by rw [hl, hln]) hag ⟨by rw [hl, hrow.1], fun j u hu => ?_⟩ (fun j u hu => ?_) (by omega) (by simp) a (fun hne => q1.resolve_left (by omega))
      · obtain ⟨c1, c2, c3⟩ := hrow.2 j u hu
        refine ⟨c2, fun y hy => ?_⟩
        have hj : j < l.length := by rw [← hl]; exact (List.getElem?_eq_some_iff.1 hy).1
        exact ih j _ y (List.getElem?_eq_getElem hj) hy (c3 _ (List.getElem?_eq_getElem hj))
      · obtain ⟨c1, c2, c3⟩ := hrow.2 j u hu
        have hj : j < l.length := by rw [← hrow.1]; exact (List.getElem?_eq_some_iff.1 hu).1
        have hown : lc.own lc.b (lc.base + off + j) := by
          have := (hbr.2.2.2.2 (off + j) (by omega)).1
          rwa [show lc.base + (off + j) = lc.base + off + j by omega] at this
        simp only [Env.ices]
        rw [if_pos ⟨b, lc, hb, hm, hown⟩]
        exact c1
  | ptr b o cs cs' ty hb hg hl _ ih =>
    intro v hv
    obtain ⟨lc, hm, hbr⟩ := H.live hg
    cases hv with
    | ptr _ _ a hn hh =>
      have ha := hh lc hm
      subst ha
      obtain ⟨f, hf⟩ := exists_vals (n := cs.length) (p := fun j v => w.cell? ⟨lc.b, lc.base + j, none⟩ = some v ∧ lc.own lc.b (lc.base + j) ∧ (∀ x, cs[j]? = some x → VR E x v) ∧ v.oneCell' = true) (fun j hj => by
        obtain ⟨h0, v, h1, h2, h3⟩ := hbr.2.2.2.2 j hj
        exact ⟨v, h1, h0, fun x hx => by rw [List.getElem?_eq_getElem hj] at hx; cases hx; exact h2, h3⟩)
      refine .fp cs' o lc.b lc.base f (fun j hj => ?_) (fun j hj => ?_) (fun j hj => ?_)
      · obtain ⟨a1, a2, a3, a4⟩ := hf j (by omega)
        simp only [Env.ices]
        rw [if_pos ⟨b, lc, hb, hm, a2⟩]
        exact a1
      · obtain ⟨a1, a2, a3, a4⟩ := hf j (by omega)
        have hj' : j < cs.length := by omega
        exact ih j _ _ (List.getElem?_eq_getElem hj') (List.getElem?_eq_getElem hj) (a3 _ (List.getElem?_eq_getElem hj'))
      · exact (hf j (by omega)).2.2.2
  | agg cs cs' hl _ ih =>
    intro v hv
    cases hv with
    | agg _ vs hle hc h1 =>
      refine .agg cs' vs (by omega) (fun j y u hy hu => ?_) h1
      have hj : j < cs.length := by have := (List.getElem?_eq_some_iff.1 hy).1; omega
      exact ih j _ y (List.getElem?_eq_getElem hj) hy (hc j _ u (List.getElem?_eq_getElem hj) hu)
  | tup cs cs' hl _ ih =>
    intro v hv
    cases hv with
    | tup _ vs hle hc =>
      refine .tup cs' vs (by omega) (fun j y u hy hu => ?_)
      have hj : j < cs.length := by have := (List.getElem?_eq_some_iff.1 hy).1; omega
      exact ih j _ y (List.getElem?_eq_getElem hj) hy (hc j _ u (List.getElem?_eq_getElem hj) hu)
  | ifc t x y _ ih =>
    intro v hv
    cases hv with
    | ifc _ _ u hu => exact .ifc t y u (ih hu)

def IceR (h : Hp) (k : Nat) : Res → Res → Prop
  | .ret x, .ret y => Ice h k x y
  | .pan x, .pan y => Ice h k x y
  | _, _ => False

/-- What the blocks below k hold speaks of none from k on. -/
def LowH (k : Nat) (h : Hp) : Prop := ∀ β, β < k → ∀ b, hget h β = some b → match b with
    | .cells cs _ => ∀ c ∈ cs, Low k c
    | .map es => ∀ e ∈ es, Low k e.1 ∧ Low k e.2

theorem LowH.zero (h : Hp) : LowH 0 h := fun β hβ => absurd hβ (Nat.not_lt_zero β)

theorem Le.ices {E0 : Env} {h0 : Hp} (H0 : h0.length = E0.n) (hE : Le E0 E) (H : SR w0 E h w) : Le E0 (E.ices w h0.length) :=
  ⟨by simp [Env.ices, H0], fun β l hb hm => hE.mu β l hb (ices_mu hm).2, fun b o v hf => ices_frz H (hE.frz b o v hf), hE.old⟩

/-- A call whose own blocks are told no more behind it. -/
theorem ACalls.ice {x : X} {f : FuncId} {args : List V} {h : Hp} {R R' : Res → Hp → Prop} (H : ACalls x f args h R)
    (hR : ∀ r h', R r h' → h.length ≤ h'.length ∧ LowH h.length h' ∧ ∃ r', IceR h' h.length r r' ∧ R' r' (h'.take h.length)) : ACalls x f args h R' := by
  refine ⟨H.1, fun w0 E w vs hs hg hv => (H.2 w0 E w vs hs hg hv).mono ?_⟩
  rintro e w' ⟨E', h', r, hE, hsr, hr, hRr⟩
  obtain ⟨hk, hlow, r', hir, hR'⟩ := hR r h' hRr
  refine ⟨E'.ices w' h.length, h'.take h.length, r', Le.ices hs.len hE hsr, hsr.ices hk hlow, ?_, hR'⟩
  cases r with
  | ret a =>
    cases r' with
    | ret b =>
      cases e with
      | returned u => exact VR.ice hsr hir hr
      | panicked l => exact hr.elim
      | outgrown => exact hr.elim
    | pan b => exact hir.elim
  | pan a =>
    cases r' with
    | ret b => exact hir.elim
    | pan b =>
      cases e with
      | returned u => exact hr.elim
      | outgrown => exact hr.elim
      | panicked l =>
        obtain ⟨v, hv, rfl⟩ := hr
        exact ⟨v, VR.ice hsr hir hv, rfl⟩
end
end Go.Vs
