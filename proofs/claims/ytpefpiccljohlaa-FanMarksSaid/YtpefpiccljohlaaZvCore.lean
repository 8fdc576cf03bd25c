/- Values, blocks and states as plain data, and how the machine's values, cells and worlds stand to them. -/
import Derived.Orders
import Derived.Recover
import Derived.Below
namespace Go.Vs
open Go.RowKit

/-- Go's data as plain data: 'sl', 'ptr', 'map' speak of blocks by their numbers in a heap of the call's own; 'lst' and 'fp' bear what they hold. -/
inductive V where
  | bool (b : Bool)
  | int (k : IntKind) (n : Int)
  | str (s : List UInt8)
  | nptr
  | ptr (b o : Nat)
  | fp (cs : List V) (off : Nat)
  | nsl
  | sl (b off len cap : Nat) (ex : Bool) (es : Nat) (ag : Bool)
  | lst (ex : Bool) (xs : List V)
  | nmap
  | map (b : Nat)
  | fn (f : Fn) (first cap : List V)
  | nfn
  | ifc (t : TypeId) (v : V)
  | nifc
  | agg (cs : List V)
  | tup (vs : List V)
  deriving Inhabited

def V.cells : V → List V
  | .agg cs => cs
  | v => [v]

/-- Fits one cell. -/
def V.one : V → Bool
  | .agg _ => false
  | .tup _ => false
  | _ => true

def flat (xs : List V) : List V := xs.flatMap V.cells

structure Loc where
  b : Nat
  base : Nat
  own : Nat → Nat → Prop

structure Env where
  n : Nat
  mu : Nat → Option Loc
  frz : Nat → Nat → Option Value
  /-- Cells of others that are never told. -/
  old : Nat → Nat → Prop

inductive VR (E : Env) : V → Value → Prop
  | bool (b : Bool) : VR E (.bool b) (.bool b)
  | int (k : IntKind) (n : Int) : VR E (.int k n) (.int k n)
  | str (s : List UInt8) : VR E (.str s) (.string ⟨s.toArray⟩)
  | nptr : VR E .nptr (.pointer none)
  | ptr (β o : Nat) (a : Addr) (hn : β < E.n) (h : ∀ l, E.mu β = some l → a = ⟨l.b, l.base + o, none⟩) : VR E (.ptr β o) (.pointer (some a))
  | fp (cs : List V) (off b p : Nat) (vals : Nat → Value) (h1 : ∀ j, j < cs.length → E.frz b (p + j) = some (vals j))
      (h2 : ∀ (j : Nat) (hj : j < cs.length), VR E cs[j] (vals j)) (h3 : ∀ j, j < cs.length → (vals j).oneCell' = true) : VR E (.fp cs off) (.pointer (some ⟨b, p + off, none⟩))
  | nsl : VR E .nsl (.slice none 0 0)
  | sl (β off len cap : Nat) (ex : Bool) (es : Nat) (ag : Bool) (a : Addr) (cap' : Nat) (hn : β < E.n) (hl : len ≤ cap) (hc : cap ≤ cap') (hex : ex = true → cap' = cap)
      (h : ∀ l, E.mu β = some l → (cap' = 0 ∨ a = ⟨l.b, l.base + off, none⟩) ∧ ∀ j, j < cap' * es → l.own l.b (l.base + off + j)) :
      VR E (.sl β off len cap ex es ag) (.slice (some a) len cap')
  | lst (ex : Bool) (xs : List V) (es : Nat) (a : Addr) (b p cap : Nat) (vals : Nat → Value) (hc : xs.length ≤ cap) (hex : ex = true → cap = xs.length)
      (hes : ∀ x ∈ xs, x.cells.length = es) (ha : xs ≠ [] → a = ⟨b, p, none⟩)
      (h1 : ∀ j, j < (flat xs).length → E.frz b (p + j) = some (vals j)) (h2 : ∀ (j : Nat) (hj : j < (flat xs).length), VR E (flat xs)[j] (vals j))
      (h3 : ∀ j, j < (flat xs).length → (vals j).oneCell' = true) :
      VR E (.lst ex xs) (.slice (some a) xs.length cap)
  | nmap : VR E .nmap (.map none)
  | map (β r : Nat) (hn : β < E.n) (h : ∀ l, E.mu β = some l → r = l.b) : VR E (.map β) (.map (some r))
  | fn (f : Fn) (first cap : List V) (first' cap' : Array Value) (hl : first'.size = first.length) (hc : cap'.size = cap.length)
      (h1 : ∀ (j : Nat) x v, first[j]? = some x → first'[j]? = some v → VR E x v) (h2 : ∀ (j : Nat) x v, cap[j]? = some x → cap'[j]? = some v → VR E x v) : VR E (.fn f first cap) (.func f first' cap')
  | nfn : VR E .nfn .nilFunc
  | ifc (t : TypeId) (x : V) (v : Value) (h : VR E x v) : VR E (.ifc t x) (.iface t v)
  | nifc : VR E .nifc .nilIface
  | agg (cs : List V) (vs : Array Value) (hl : vs.size = cs.length) (h : ∀ (j : Nat) x v, cs[j]? = some x → vs[j]? = some v → VR E x v) (h1 : ∀ (j : Nat) v, vs[j]? = some v → v.oneCell' = true) : VR E (.agg cs) (.agg vs)
  | tup (cs : List V) (vs : Array Value) (hl : vs.size = cs.length) (h : ∀ (j : Nat) x v, cs[j]? = some x → vs[j]? = some v → VR E x v) : VR E (.tup cs) (.tuple vs)

/-- What a later state may have turned: more is frozen, blocks are gone, new ones are there. -/
structure Le (E E' : Env) : Prop where
  n : E.n ≤ E'.n
  mu : ∀ β l, β < E.n → E'.mu β = some l → E.mu β = some l
  frz : ∀ b o v, E.frz b o = some v → E'.frz b o = some v
  old : E'.old = E.old

theorem Le.refl (E : Env) : Le E E := ⟨Nat.le_refl _, fun _ _ _ h => h, fun _ _ _ h => h, rfl⟩
theorem Le.trans {A B C : Env} (h : Le A B) (k : Le B C) : Le A C :=
  ⟨Nat.le_trans h.n k.n, fun β l hb hm => h.mu β l hb (k.mu β l (Nat.lt_of_lt_of_le hb h.n) hm), fun b o v hf => k.frz b o v (h.frz b o v hf), k.old.trans h.old⟩

theorem VR.mono {E E' : Env} (hE : Le E E') {x : V} {v : Value} (h : VR E x v) : VR E' x v := by
  induction h with
  | bool b => exact .bool b
  | int k n => exact .int k n
  | str s => exact .str s
  | nptr => exact .nptr
  | ptr β o a hn h => exact .ptr β o a (Nat.lt_of_lt_of_le hn hE.n) fun l hl => h l (hE.mu β l hn hl)
  | fp cs off b p vals h1 _ h3 ih => exact .fp cs off b p vals (fun j hj => hE.frz _ _ _ (h1 j hj)) ih h3
  | nsl => exact .nsl
  | sl β off len cap ex es ag a cap' hn hl hc hex h => exact .sl β off len cap ex es ag a cap' (Nat.lt_of_lt_of_le hn hE.n) hl hc hex fun l hl => h l (hE.mu β l hn hl)
  | lst ex xs es a b p cap vals hc hex hes ha h1 _ h3 ih => exact .lst ex xs es a b p cap vals hc hex hes ha (fun j hj => hE.frz _ _ _ (h1 j hj)) ih h3
  | nmap => exact .nmap
  | map β r hn h => exact .map β r (Nat.lt_of_lt_of_le hn hE.n) fun l hl => h l (hE.mu β l hn hl)
  | fn f first cap first' cap' hl hc _ _ ih1 ih2 => exact .fn f first cap first' cap' hl hc ih1 ih2
  | nfn => exact .nfn
  | ifc t x v _ ih => exact .ifc t x v ih
  | nifc => exact .nifc
  | agg cs vs hl _ h1 ih => exact .agg cs vs hl ih h1
  | tup cs vs hl _ ih => exact .tup cs vs hl ih

/-- A block of the call's own. -/
inductive Blk where
  | cells (cs : List V) (ty : Option TypeId := none)
  | map (es : List (V × V))
  deriving Inhabited

abbrev Hp := List (Option Blk)

/-- The block is a row of this type from its first cell on, all of it the call's own. -/
def TyR (w : World) (l : Loc) (ty : Option TypeId) : Prop := ∀ T, ty = some T → l.base = 0 ∧ ∃ m, w.shape? l.b = some (T, m) ∧ ∀ o, o < m → l.own l.b o

def BR (B : Nat) (E : Env) (w : World) (l : Loc) : Blk → Prop
  | .cells cs ty =>
    TyR w l ty ∧ B ≤ l.b ∧ l.b < w.heap.size ∧ (∀ b o, l.own b o → b = l.b ∧ (w.cell? ⟨b, o, none⟩).isSome = true ∧ w.frozen? ⟨b, o, none⟩ = false) ∧
    ∀ (j : Nat) (hj : j < cs.length), l.own l.b (l.base + j) ∧ ∃ v, w.cell? ⟨l.b, l.base + j, none⟩ = some v ∧ VR E cs[j] v ∧ v.oneCell' = true
  | .map es =>
    B ≤ l.b ∧ l.own l.b 0 ∧ (∀ b o, l.own b o → b = l.b) ∧ ∃ (ms : Array MapEntry) (clock : Nat), w.heap[l.b]? = some (.map ms clock) ∧ ms.size = es.length ∧
      ∀ (j : Nat) e m, es[j]? = some e → ms[j]? = some m → VR E e.1 m.key ∧ VR E e.2 m.val

structure SR (w0 : World) (E : Env) (h : Hp) (w : World) : Prop where
  len : h.length = E.n
  below : Below w0.heap.size w0 w
  frz : ∀ b o v, E.frz b o = some v → w.cell? ⟨b, o, none⟩ = some v
  blk : ∀ β x, h[β]? = some (some x) → ∃ l, E.mu β = some l ∧ BR w0.heap.size E w l x
  non : ∀ β l, E.mu β = some l → ∃ x, h[β]? = some (some x)
  dis : ∀ β β' l l' b o, E.mu β = some l → E.mu β' = some l' → l.own b o → l'.own b o → β = β'
  dfr : ∀ β l b o, E.mu β = some l → l.own b o → E.frz b o = none
  old : ∀ b o, E.old b o → b < w.heap.size ∧ E.frz b o = none ∧ ∀ β l, E.mu β = some l → ¬ l.own b o


/-! ### How a state is kept -/

theorem TyR.none {w : World} {l : Loc} : TyR w l none := fun _ h => by cases h
theorem TyR.mono {w w' : World} {l : Loc} {ty : Option TypeId} (h : TyR w l ty) (hs : ∀ s, w.shape? l.b = some s → w'.shape? l.b = some s) : TyR w' l ty := fun T hT => by
  obtain ⟨h1, m, h2, h3⟩ := h T hT
  exact ⟨h1, m, hs _ h2, h3⟩

theorem BR.mono {B : Nat} {E E' : Env} {w w' : World} {l : Loc} {x : Blk} (hE : Le E E') (hs : w.heap.size ≤ w'.heap.size)
    (hb : w.heap[l.b]? = w'.heap[l.b]?) (h : BR B E w l x) : BR B E' w' l x := by
  cases x with
  | cells cs ty =>
    obtain ⟨h0, h1, h2, h3, h4⟩ := h
    refine ⟨h0.mono fun s hs' => by unfold World.shape? at hs' ⊢; rw [← hb]; exact hs', h1, Nat.lt_of_lt_of_le h2 hs, fun b o ho => ?_, fun j hj => ?_⟩
    · obtain ⟨rfl, hc, hf⟩ := h3 b o ho
      exact ⟨rfl, by rw [World.cell?_of_block (w := w) hb.symm]; exact hc, by rw [World.frozen?_of_block (w := w) hb.symm]; exact hf⟩
    · obtain ⟨ho, v, hv, hr, h1⟩ := h4 j hj
      exact ⟨ho, v, by rw [World.cell?_of_block (w := w) hb.symm]; exact hv, hr.mono hE, h1⟩
  | map es =>
    obtain ⟨h1, h0, h2, ms, clock, h3, h4, h5⟩ := h
    exact ⟨h1, h0, h2, ms, clock, by rw [← hb]; exact h3, h4, fun j e m he hm => ⟨(h5 j e m he hm).1.mono hE, (h5 j e m he hm).2.mono hE⟩⟩

theorem BR.lt {B : Nat} {E : Env} {w : World} {l : Loc} {x : Blk} (h : BR B E w l x) : l.b < w.heap.size := by
  cases x with
  | cells cs ty => exact h.2.2.1
  | map es =>
    obtain ⟨_, _, _, ms, clock, h3, _⟩ := h
    rcases Nat.lt_or_ge l.b w.heap.size with h' | h'
    · exact h'
    · rw [Array.getElem?_eq_none h'] at h3; cases h3

theorem BR.ge {B : Nat} {E : Env} {w : World} {l : Loc} {x : Blk} (h : BR B E w l x) : B ≤ l.b := by
  cases x with
  | cells cs ty => exact h.2.1
  | map es => exact h.1

theorem BR.own {B : Nat} {E : Env} {w : World} {l : Loc} {x : Blk} (h : BR B E w l x) : ∀ b o, l.own b o → b = l.b := by
  cases x with
  | cells cs ty => exact fun b o ho => (h.2.2.2.1 b o ho).1
  | map es => exact h.2.2.1

section
variable {w0 w : World} {E : Env} {h : Hp}

theorem SR.frz_lt (H : SR w0 E h w) {b o : Nat} {v : Value} (hf : E.frz b o = some v) : b < w.heap.size :=
  World.block_lt_of_cell? w _ (H.frz b o v hf)

theorem SR.of_blocks {w' : World} (H : SR w0 E h w) (hb : Below w.heap.size w w') : SR w0 E h w' where
  len := H.len
  below := H.below.trans (hb.mono H.below.size)
  frz b o v hf := by rw [hb.cell (p := ⟨b, o, none⟩) (H.frz_lt hf)]; exact H.frz b o v hf
  blk β x hx := by
    obtain ⟨l, hl, hr⟩ := H.blk β x hx
    exact ⟨l, hl, BR.mono (Le.refl _) hb.size (hb.block _ hr.lt).symm hr⟩
  non := H.non
  dis := H.dis
  dfr := H.dfr
  old b o ho := ⟨Nat.lt_of_lt_of_le (H.old b o ho).1 hb.size, (H.old b o ho).2⟩

/-- A block of which nothing is told. -/
theorem SR.junk (H : SR w0 E h w) (o : Obj) : SR w0 E h (w.alloc o) := H.of_blocks ((Below.refl _ _).alloc (Nat.le_refl _) o)
theorem SR.drew (H : SR w0 E h w) : SR w0 E h w.drew := H.of_blocks (Below.refl _ _).drew

def Env.add (E : Env) (l : Loc) : Env := { E with n := E.n + 1, mu := fun β => if β = E.n then some l else E.mu β }

theorem SR.mu_lt (H : SR w0 E h w) {β : Nat} {l : Loc} (hm : E.mu β = some l) : β < E.n := by
  obtain ⟨x, hx⟩ := H.non β l hm
  rw [← H.len]
  rcases Nat.lt_or_ge β h.length with h' | h'
  · exact h'
  · rw [List.getElem?_eq_none h'] at hx; cases hx

theorem Le.add (E : Env) (l : Loc) : Le E (E.add l) :=
  ⟨Nat.le_succ _, fun β l' hb hm => by simp only [Env.add] at hm; rwa [if_neg (by omega)] at hm, fun _ _ _ hf => hf, rfl⟩

/-- A new block, told. -/
theorem SR.new {w' : World} (H : SR w0 E h w) (l : Loc) (x : Blk) (hb : Below w.heap.size w w') (hl : l.b = w.heap.size) (hr : BR w0.heap.size (E.add l) w' l x) :
    SR w0 (E.add l) (h ++ [some x]) w' := by
  have hold := H.of_blocks hb
  have hlt : ∀ β l', E.mu β = some l' → l'.b < w.heap.size := fun β l' hm => by
    obtain ⟨x', hx'⟩ := H.non β l' hm
    obtain ⟨l2, hl2, hr2⟩ := H.blk β x' hx'
    rw [hm] at hl2; cases hl2
    exact hr2.lt
  have hown : ∀ β l', E.mu β = some l' → ∀ b o, l'.own b o → b = l'.b := fun β l' hm => by
    obtain ⟨x', hx'⟩ := H.non β l' hm
    obtain ⟨l2, hl2, hr2⟩ := H.blk β x' hx'
    rw [hm] at hl2; cases hl2
    exact hr2.own
  refine ⟨by simp [H.len, Env.add], hold.below, hold.frz, fun β y hy => ?_, fun β l' hm => ?_, fun β β' l1 l2 b o h1 h2 o1 o2 => ?_, fun β l' b o hm ho => ?_, fun b o ho => ⟨(hold.old b o ho).1, (H.old b o ho).2.1, fun β l' hm ho' => ?_⟩⟩
  · by_cases hβ : β = E.n
    · subst hβ
      rw [List.getElem?_append_right (by rw [H.len]; exact Nat.le_refl _), H.len] at hy
      simp at hy
      subst hy
      exact ⟨l, by simp [Env.add], hr⟩
    · have hβ' : β < h.length := by
        rcases Nat.lt_or_ge β h.length with h' | h'
        · exact h'
        · rw [List.getElem?_eq_none (by rw [List.length_append, List.length_singleton]; rw [H.len] at h' ⊢; omega)] at hy; cases hy
      rw [List.getElem?_append_left hβ'] at hy
      obtain ⟨l', hl', hr'⟩ := hold.blk β y hy
      exact ⟨l', by simp only [Env.add]; rw [if_neg hβ]; exact hl', hr'.mono (Le.add E l) (Nat.le_refl _) rfl⟩
  · simp only [Env.add] at hm
    by_cases hβ : β = E.n
    · subst hβ
      exact ⟨x, by rw [List.getElem?_append_right (by rw [H.len]; exact Nat.le_refl _), H.len]; simp⟩
    · rw [if_neg hβ] at hm
      obtain ⟨y, hy⟩ := H.non β l' hm
      exact ⟨y, by rw [List.getElem?_append_left (by have := H.mu_lt hm; rw [H.len]; exact this)]; exact hy⟩
  · simp only [Env.add] at h1 h2
    by_cases hβ : β = E.n
    · by_cases hβ' : β' = E.n
      · rw [hβ, hβ']
      · rw [if_pos hβ] at h1; rw [if_neg hβ'] at h2
        cases h1
        have e1 := hr.own b o o1
        have e2 := hown β' l2 h2 b o o2
        have := hlt β' l2 h2
        omega
    · by_cases hβ' : β' = E.n
      · rw [if_neg hβ] at h1; rw [if_pos hβ'] at h2
        cases h2
        have e1 := hr.own b o o2
        have e2 := hown β l1 h1 b o o1
        have := hlt β l1 h1
        omega
      · rw [if_neg hβ] at h1; rw [if_neg hβ'] at h2
        exact H.dis β β' l1 l2 b o h1 h2 o1 o2
  · simp only [Env.add] at hm ⊢
    by_cases hβ : β = E.n
    · rw [if_pos hβ] at hm
      cases hm
      cases hf : E.frz b o with
      | none => rfl
      | some v =>
        have := H.frz_lt hf
        have := hr.own b o ho
        omega
    · rw [if_neg hβ] at hm
      exact H.dfr β l' b o hm ho
  · simp only [Env.add] at hm
    by_cases hβ : β = E.n
    · rw [if_pos hβ] at hm
      cases hm
      have := (H.old b o ho).1
      have := hr.own b o ho'
      omega
    · rw [if_neg hβ] at hm
      exact (H.old b o ho).2.2 β l' hm ho'

def Env.kill (E : Env) (β : Nat) : Env := { E with mu := fun γ => if γ = β then none else E.mu γ }
theorem Le.kill (E : Env) (β : Nat) : Le E (E.kill β) :=
  ⟨Nat.le_refl _, fun γ l _ hm => by simp only [Env.kill] at hm; split at hm; cases hm; exact hm, fun _ _ _ hf => hf, rfl⟩

theorem SR.kill (H : SR w0 E h w) (β : Nat) : SR w0 (E.kill β) (h.set β none) w := by
  refine ⟨by simp [H.len, Env.kill], H.below, H.frz, fun γ x hx => ?_, fun γ l hm => ?_, fun γ γ' l l' b o h1 h2 o1 o2 => ?_, fun γ l b o hm ho => ?_, fun b o ho => ⟨(H.old b o ho).1, (H.old b o ho).2.1, fun γ l hm => ?_⟩⟩
  · by_cases hγ : β = γ
    · subst hγ
      rcases Nat.lt_or_ge β h.length with h' | h'
      · rw [List.getElem?_set_self h'] at hx; cases hx
      · rw [List.getElem?_eq_none (by simpa using h')] at hx; cases hx
    · rw [List.getElem?_set_ne hγ] at hx
      obtain ⟨l, hl, hr⟩ := H.blk γ x hx
      exact ⟨l, by simp only [Env.kill]; rw [if_neg (fun e => hγ e.symm)]; exact hl, hr.mono (Le.kill E β) (Nat.le_refl _) rfl⟩
  · simp only [Env.kill] at hm
    split at hm
    · cases hm
    · rename_i hγ
      obtain ⟨x, hx⟩ := H.non γ l hm
      exact ⟨x, by rw [List.getElem?_set_ne (fun e => hγ e.symm)]; exact hx⟩
  · simp only [Env.kill] at h1 h2
    split at h1
    · cases h1
    · split at h2
      · cases h2
      · exact H.dis γ γ' l l' b o h1 h2 o1 o2
  · simp only [Env.kill] at hm ⊢
    split at hm
    · cases hm
    · exact H.dfr γ l b o hm ho
  · simp only [Env.kill] at hm
    split at hm
    · cases hm
    · exact (H.old b o ho).2.2 γ l hm
end
end Go.Vs
