/- Values, blocks and states as plain data, and how the machine's values, cells and worlds stand to them. -/
import Derived.Orders
import Derived.Recover
import Derived.Below
import Derived.Laws.IdiomCopy
import Derived.Laws.Cells
import Derived.Laws.Strings
import Derived.Laws.Entries
import Derived.Laws.StructEq
import Derived.Lib.ConvBytes
import Derived.Laws.BytesString
import Derived.Lib.Strings
set_option linter.unusedSimpArgs false
set_option linter.unusedVariables false
namespace Go.Vs
open Go.RowKit

/-- Go's data as plain data: 'sl', 'ptr', 'map' speak of blocks by their numbers in a heap of the call's own; 'lst' and 'fp' bear what they hold. -/
inductive V where
  | bool (b : Bool)
  | int (k : IntKind) (n : Int)
  | str (s : List UInt8)
  | nptr
  | ptr (b o : Nat)
  | fp (cs : List V) (off : Nat)
  | nsl
  | sl (b off len cap : Nat) (ex : Bool) (es : Nat) (ag : Bool)
  | lst (ex : Bool) (xs : List V)
  | nmap
  | map (b : Nat)
  | fn (f : Fn) (first cap : List V)
  | nfn
  | ifc (t : TypeId) (v : V)
  | nifc
  | agg (cs : List V)
  | tup (vs : List V)
  deriving Inhabited

def V.cells : V → List V
  | .agg cs => cs
  | v => [v]

/-- Fits one cell. -/
def V.one : V → Bool
  | .agg _ => false
  | .tup _ => false
  | _ => true

def flat (xs : List V) : List V := xs.flatMap V.cells

structure Loc where
  b : Nat
  base : Nat
  own : Nat → Nat → Prop

structure Env where
  n : Nat
  mu : Nat → Option Loc
  frz : Nat → Nat → Option Value
  /-- Cells of others that are never told. -/
  old : Nat → Nat → Prop
  /-- Blocks that are there, are as told here, and are spoken of by nobody yet. -/
  hid : Nat → Option Obj

inductive VR (E : Env) : V → Value → Prop
  | bool (b : Bool) : VR E (.bool b) (.bool b)
  | int (k : IntKind) (n : Int) : VR E (.int k n) (.int k n)
  | str (s : List UInt8) : VR E (.str s) (.string ⟨s.toArray⟩)
  | nptr : VR E .nptr (.pointer none)
  | ptr (β o : Nat) (a : Addr) (hn : β < E.n) (h : ∀ l, E.mu β = some l → a = ⟨l.b, l.base + o, none⟩) : VR E (.ptr β o) (.pointer (some a))
  | fp (cs : List V) (off b p : Nat) (vals : Nat → Value) (h1 : ∀ j, j < cs.length → E.frz b (p + j) = some (vals j))
      (h2 : ∀ (j : Nat) (hj : j < cs.length), VR E cs[j] (vals j)) (h3 : ∀ j, j < cs.length → (vals j).oneCell' = true) : VR E (.fp cs off) (.pointer (some ⟨b, p + off, none⟩))
  | nsl : VR E .nsl (.slice none 0 0)
  | sl (β off len cap : Nat) (ex : Bool) (es : Nat) (ag : Bool) (a : Addr) (cap' : Nat) (hn : β < E.n) (hl : len ≤ cap) (hc : cap ≤ cap') (hex : ex = true → cap' = cap)
      (h : ∀ l, E.mu β = some l → (cap' = 0 ∨ a = ⟨l.b, l.base + off, none⟩) ∧ ∀ j, j < cap' * es → l.own l.b (l.base + off + j)) :
      VR E (.sl β off len cap ex es ag) (.slice (some a) len cap')
  | lst (ex : Bool) (xs : List V) (es : Nat) (a : Addr) (b p cap : Nat) (vals : Nat → Value) (hc : xs.length ≤ cap) (hex : ex = true → cap = xs.length)
      (hes : ∀ x ∈ xs, x.cells.length = es) (ha : xs ≠ [] → a = ⟨b, p, none⟩)
      (h1 : ∀ j, j < (flat xs).length → E.frz b (p + j) = some (vals j)) (h2 : ∀ (j : Nat) (hj : j < (flat xs).length), VR E (flat xs)[j] (vals j))
      (h3 : ∀ j, j < (flat xs).length → (vals j).oneCell' = true) :
      VR E (.lst ex xs) (.slice (some a) xs.length cap)
  | nmap : VR E .nmap (.map none)
  | map (β r : Nat) (hn : β < E.n) (h : ∀ l, E.mu β = some l → r = l.b) : VR E (.map β) (.map (some r))
  | fn (f : Fn) (first cap : List V) (first' cap' : Array Value) (hl : first'.size = first.length) (hc : cap'.size = cap.length)
      (h1 : ∀ (j : Nat) x v, first[j]? = some x → first'[j]? = some v → VR E x v) (h2 : ∀ (j : Nat) x v, cap[j]? = some x → cap'[j]? = some v → VR E x v) : VR E (.fn f first cap) (.func f first' cap')
  | nfn : VR E .nfn .nilFunc
  | ifc (t : TypeId) (x : V) (v : Value) (h : VR E x v) : VR E (.ifc t x) (.iface t v)
  | nifc : VR E .nifc .nilIface
  | agg (cs : List V) (vs : Array Value) (hl : vs.size = cs.length) (h : ∀ (j : Nat) x v, cs[j]? = some x → vs[j]? = some v → VR E x v) (h1 : ∀ (j : Nat) v, vs[j]? = some v → v.oneCell' = true) : VR E (.agg cs) (.agg vs)
  | tup (cs : List V) (vs : Array Value) (hl : vs.size = cs.length) (h : ∀ (j : Nat) x v, cs[j]? = some x → vs[j]? = some v → VR E x v) : VR E (.tup cs) (.tuple vs)

/-- What a later state may have turned: more is frozen, blocks are gone, new ones are there. -/
structure Le (E E' : Env) : Prop where
  n : E.n ≤ E'.n
  mu : ∀ β l, β < E.n → E'.mu β = some l → E.mu β = some l
  frz : ∀ b o v, E.frz b o = some v → E'.frz b o = some v
  old : E'.old = E.old
  hid : E'.hid = E.hid

theorem Le.refl (E : Env) : Le E E := ⟨Nat.le_refl _, fun _ _ _ h => h, fun _ _ _ h => h, rfl, rfl⟩
theorem Le.trans {A B C : Env} (h : Le A B) (k : Le B C) : Le A C :=
  ⟨Nat.le_trans h.n k.n, fun β l hb hm => h.mu β l hb (k.mu β l (Nat.lt_of_lt_of_le hb h.n) hm), fun b o v hf => k.frz b o v (h.frz b o v hf), k.old.trans h.old, k.hid.trans h.hid⟩

theorem VR.mono {E E' : Env} (hE : Le E E') {x : V} {v : Value} (h : VR E x v) : VR E' x v := by
  induction h with
  | bool b => exact .bool b
  | int k n => exact .int k n
  | str s => exact .str s
  | nptr => exact .nptr
  | ptr β o a hn h => exact .ptr β o a (Nat.lt_of_lt_of_le hn hE.n) fun l hl => h l (hE.mu β l hn hl)
  | fp cs off b p vals h1 _ h3 ih => exact .fp cs off b p vals (fun j hj => hE.frz _ _ _ (h1 j hj)) ih h3
  | nsl => exact .nsl
  | sl β off len cap ex es ag a cap' hn hl hc hex h => exact .sl β off len cap ex es ag a cap' (Nat.lt_of_lt_of_le hn hE.n) hl hc hex fun l hl => h l (hE.mu β l hn hl)
  | lst ex xs es a b p cap vals hc hex hes ha h1 _ h3 ih => exact .lst ex xs es a b p cap vals hc hex hes ha (fun j hj => hE.frz _ _ _ (h1 j hj)) ih h3
  | nmap => exact .nmap
  | map β r hn h => exact .map β r (Nat.lt_of_lt_of_le hn hE.n) fun l hl => h l (hE.mu β l hn hl)
  | fn f first cap first' cap' hl hc _ _ ih1 ih2 => exact .fn f first cap first' cap' hl hc ih1 ih2
  | nfn => exact .nfn
  | ifc t x v _ ih => exact .ifc t x v ih
  | nifc => exact .nifc
  | agg cs vs hl _ h1 ih => exact .agg cs vs hl ih h1
  | tup cs vs hl _ ih => exact .tup cs vs hl ih

/-- A block of the call's own. -/
inductive Blk where
  | cells (cs : List V) (ty : Option TypeId := none)
  | map (es : List (V × V))
  deriving Inhabited

abbrev Hp := List (Option Blk)

/-- The block is a row of this type from its first cell on, all of it the call's own. -/
def TyR (w : World) (l : Loc) (ty : Option TypeId) : Prop := ∀ T, ty = some T → l.base = 0 ∧ ∃ m, w.shape? l.b = some (T, m) ∧ ∀ o, o < m → l.own l.b o

/-- Entries were born one behind the other, and none was lost. -/
def Births (n : Nat) (ms : Array MapEntry) (clock : Nat) : Prop := ms.size = n ∧ clock = n ∧ ∀ (j : Nat) m, ms[j]? = some m → m.born = j

def BR (B : Nat) (E : Env) (w : World) (l : Loc) : Blk → Prop
  | .cells cs ty =>
    TyR w l ty ∧ B ≤ l.b ∧ l.b < w.heap.size ∧ (∀ b o, l.own b o → b = l.b ∧ (w.cell? ⟨b, o, none⟩).isSome = true ∧ w.frozen? ⟨b, o, none⟩ = false) ∧
    ∀ (j : Nat) (hj : j < cs.length), l.own l.b (l.base + j) ∧ ∃ v, w.cell? ⟨l.b, l.base + j, none⟩ = some v ∧ VR E cs[j] v ∧ v.oneCell' = true
  | .map es =>
    B ≤ l.b ∧ l.own l.b 0 ∧ (∀ b o, l.own b o → b = l.b) ∧ ∃ (ms : Array MapEntry) (clock : Nat), w.heap[l.b]? = some (.map ms clock) ∧ Births es.length ms clock ∧
      ∀ (j : Nat) e m, es[j]? = some e → ms[j]? = some m → VR E e.1 m.key ∧ VR E e.2 m.val

structure SR (w0 : World) (E : Env) (h : Hp) (w : World) : Prop where
  len : h.length = E.n
  below : Below w0.heap.size w0 w
  frz : ∀ b o v, E.frz b o = some v → w.cell? ⟨b, o, none⟩ = some v
  blk : ∀ β x, h[β]? = some (some x) → ∃ l, E.mu β = some l ∧ BR w0.heap.size E w l x
  non : ∀ β l, E.mu β = some l → ∃ x, h[β]? = some (some x)
  dis : ∀ β β' l l' b o, E.mu β = some l → E.mu β' = some l' → l.own b o → l'.own b o → β = β'
  dfr : ∀ β l b o, E.mu β = some l → l.own b o → E.frz b o = none
  old : ∀ b o, E.old b o → b < w.heap.size ∧ E.frz b o = none ∧ ∀ β l, E.mu β = some l → ¬ l.own b o
  hid : ∀ b o, E.hid b = some o → w.heap[b]? = some o ∧ (∀ p, E.frz b p = none) ∧ ∀ β l, E.mu β = some l → l.b ≠ b


/-! ### How a state is kept -/

theorem TyR.none {w : World} {l : Loc} : TyR w l none := fun _ h => by cases h
theorem TyR.mono {w w' : World} {l : Loc} {ty : Option TypeId} (h : TyR w l ty) (hs : ∀ s, w.shape? l.b = some s → w'.shape? l.b = some s) : TyR w' l ty := fun T hT => by
  obtain ⟨h1, m, h2, h3⟩ := h T hT
  exact ⟨h1, m, hs _ h2, h3⟩

theorem BR.mono {B : Nat} {E E' : Env} {w w' : World} {l : Loc} {x : Blk} (hE : Le E E') (hs : w.heap.size ≤ w'.heap.size)
    (hb : w.heap[l.b]? = w'.heap[l.b]?) (h : BR B E w l x) : BR B E' w' l x := by
  cases x with
  | cells cs ty =>
    obtain ⟨h0, h1, h2, h3, h4⟩ := h
    refine ⟨h0.mono fun s hs' => by unfold World.shape? at hs' ⊢; rw [← hb]; exact hs', h1, Nat.lt_of_lt_of_le h2 hs, fun b o ho => ?_, fun j hj => ?_⟩
    · obtain ⟨rfl, hc, hf⟩ := h3 b o ho
      exact ⟨rfl, by rw [World.cell?_of_block (w := w) hb.symm]; exact hc, by rw [World.frozen?_of_block (w := w) hb.symm]; exact hf⟩
    · obtain ⟨ho, v, hv, hr, h1⟩ := h4 j hj
      exact ⟨ho, v, by rw [World.cell?_of_block (w := w) hb.symm]; exact hv, hr.mono hE, h1⟩
  | map es =>
    obtain ⟨h1, h0, h2, ms, clock, h3, h4, h5⟩ := h
    exact ⟨h1, h0, h2, ms, clock, by rw [← hb]; exact h3, h4, fun j e m he hm => ⟨(h5 j e m he hm).1.mono hE, (h5 j e m he hm).2.mono hE⟩⟩

theorem BR.lt {B : Nat} {E : Env} {w : World} {l : Loc} {x : Blk} (h : BR B E w l x) : l.b < w.heap.size := by
  cases x with
  | cells cs ty => exact h.2.2.1
  | map es =>
    obtain ⟨_, _, _, ms, clock, h3, _⟩ := h
    rcases Nat.lt_or_ge l.b w.heap.size with h' | h'
    · exact h'
    · rw [Array.getElem?_eq_none h'] at h3; cases h3

theorem BR.ge {B : Nat} {E : Env} {w : World} {l : Loc} {x : Blk} (h : BR B E w l x) : B ≤ l.b := by
  cases x with
  | cells cs ty => exact h.2.1
  | map es => exact h.1

theorem BR.own {B : Nat} {E : Env} {w : World} {l : Loc} {x : Blk} (h : BR B E w l x) : ∀ b o, l.own b o → b = l.b := by
  cases x with
  | cells cs ty => exact fun b o ho => (h.2.2.2.1 b o ho).1
  | map es => exact h.2.2.1

section
variable {w0 w : World} {E : Env} {h : Hp}

theorem SR.frz_lt (H : SR w0 E h w) {b o : Nat} {v : Value} (hf : E.frz b o = some v) : b < w.heap.size :=
  World.block_lt_of_cell? w _ (H.frz b o v hf)

theorem SR.hid_lt (H : SR w0 E h w) {b : Nat} {o : Obj} (ho : E.hid b = some o) : b < w.heap.size := by
  have := (H.hid b o ho).1
  rcases Nat.lt_or_ge b w.heap.size with h' | h'
  · exact h'
  · rw [Array.getElem?_eq_none h'] at this; cases this

theorem SR.of_blocks {w' : World} (H : SR w0 E h w) (hb : Below w.heap.size w w') : SR w0 E h w' where
  len := H.len
  below := H.below.trans (hb.mono H.below.size)
  frz b o v hf := by rw [hb.cell (p := ⟨b, o, none⟩) (H.frz_lt hf)]; exact H.frz b o v hf
  blk β x hx := by
    obtain ⟨l, hl, hr⟩ := H.blk β x hx
    exact ⟨l, hl, BR.mono (Le.refl _) hb.size (hb.block _ hr.lt).symm hr⟩
  non := H.non
  dis := H.dis
  dfr := H.dfr
  old b o ho := ⟨Nat.lt_of_lt_of_le (H.old b o ho).1 hb.size, (H.old b o ho).2⟩
  hid b o ho := ⟨by rw [hb.block _ (H.hid_lt ho)]; exact (H.hid b o ho).1, (H.hid b o ho).2⟩

/-- A block of which nothing is told. -/
theorem SR.junk (H : SR w0 E h w) (o : Obj) : SR w0 E h (w.alloc o) := H.of_blocks ((Below.refl _ _).alloc (Nat.le_refl _) o)
theorem SR.drew (H : SR w0 E h w) : SR w0 E h w.drew := H.of_blocks (Below.refl _ _).drew

def Env.add (E : Env) (l : Loc) : Env := { E with n := E.n + 1, mu := fun β => if β = E.n then some l else E.mu β }

theorem SR.mu_lt (H : SR w0 E h w) {β : Nat} {l : Loc} (hm : E.mu β = some l) : β < E.n := by
  obtain ⟨x, hx⟩ := H.non β l hm
  rw [← H.len]
  rcases Nat.lt_or_ge β h.length with h' | h'
  · exact h'
  · rw [List.getElem?_eq_none h'] at hx; cases hx

theorem Le.add (E : Env) (l : Loc) : Le E (E.add l) :=
  ⟨Nat.le_succ _, fun β l' hb hm => by simp only [Env.add] at hm; rwa [if_neg (by omega)] at hm, fun _ _ _ hf => hf, rfl, rfl⟩

/-- A new block, told. -/
theorem SR.new {w' : World} (H : SR w0 E h w) (l : Loc) (x : Blk) (hb : Below w.heap.size w w') (hl : l.b = w.heap.size) (hr : BR w0.heap.size (E.add l) w' l x) :
    SR w0 (E.add l) (h ++ [some x]) w' := by
  have hold := H.of_blocks hb
  have hlt : ∀ β l', E.mu β = some l' → l'.b < w.heap.size := fun β l' hm => by
    obtain ⟨x', hx'⟩ := H.non β l' hm
    obtain ⟨l2, hl2, hr2⟩ := H.blk β x' hx'
    rw [hm] at hl2; cases hl2
    exact hr2.lt
  have hown : ∀ β l', E.mu β = some l' → ∀ b o, l'.own b o → b = l'.b := fun β l' hm => by
    obtain ⟨x', hx'⟩ := H.non β l' hm
    obtain ⟨l2, hl2, hr2⟩ := H.blk β x' hx'
    rw [hm] at hl2; cases hl2
    exact hr2.own
  refine ⟨by simp [H.len, Env.add], hold.below, hold.frz, fun β y hy => ?_, fun β l' hm => ?_, fun β β' l1 l2 b o h1 h2 o1 o2 => ?_, fun β l' b o hm ho => ?_, fun b o ho => ⟨(hold.old b o ho).1, (H.old b o ho).2.1, fun β l' hm ho' => ?_⟩, fun b o ho => ⟨(hold.hid b o ho).1, (H.hid b o ho).2.1, fun β l' hm => ?_⟩⟩
  · by_cases hβ : β = E.n
    · subst hβ
      rw [List.getElem?_append_right (by rw [H.len]; exact Nat.le_refl _), H.len] at hy
      simp at hy
      subst hy
      exact ⟨l, by simp [Env.add], hr⟩
    · have hβ' : β < h.length := by
        rcases Nat.lt_or_ge β h.length with h' | h'
        · exact h'
        · rw [List.getElem?_eq_none (by rw [List.length_append, List.length_singleton]; rw [H.len] at h' ⊢; omega)] at hy; cases hy
      rw [List.getElem?_append_left hβ'] at hy
      obtain ⟨l', hl', hr'⟩ := hold.blk β y hy
      exact ⟨l', by simp only [Env.add]; rw [if_neg hβ]; exact hl', hr'.mono (Le.add E l) (Nat.le_refl _) rfl⟩
  · simp only [Env.add] at hm
    by_cases hβ : β = E.n
    · subst hβ
      exact ⟨x, by rw [List.getElem?_append_right (by rw [H.len]; exact Nat.le_refl _), H.len]; simp⟩
    · rw [if_neg hβ] at hm
      obtain ⟨y, hy⟩ := H.non β l' hm
      exact ⟨y, by rw [List.getElem?_append_left (by have := H.mu_lt hm; rw [H.len]; exact this)]; exact hy⟩
  · simp only [Env.add] at h1 h2
    by_cases hβ : β = E.n
    · by_cases hβ' : β' = E.n
      · rw [hβ, hβ']
      · rw [if_pos hβ] at h1; rw [if_neg hβ'] at h2
        cases h1
        have e1 := hr.own b o o1
        have e2 := hown β' l2 h2 b o o2
        have := hlt β' l2 h2
        omega
    · by_cases hβ' : β' = E.n
      · rw [if_neg hβ] at h1; rw [if_pos hβ'] at h2
        cases h2
        have e1 := hr.own b o o2
        have e2 := hown β l1 h1 b o o1
        have := hlt β l1 h1
        omega
      · rw [if_neg hβ] at h1; rw [if_neg hβ'] at h2
        exact H.dis β β' l1 l2 b o h1 h2 o1 o2
  · simp only [Env.add] at hm ⊢
    by_cases hβ : β = E.n
    · rw [if_pos hβ] at hm
      cases hm
      cases hf : E.frz b o with
      | none => rfl
      | some v =>
        have := H.frz_lt hf
        have := hr.own b o ho
        omega
    · rw [if_neg hβ] at hm
      exact H.dfr β l' b o hm ho
  · simp only [Env.add] at hm
    by_cases hβ : β = E.n
    · rw [if_pos hβ] at hm
      cases hm
      have := (H.old b o ho).1
      have := hr.own b o ho'
      omega
    · rw [if_neg hβ] at hm
      exact (H.old b o ho).2.2 β l' hm ho'
  · simp only [Env.add] at hm
    by_cases hβ : β = E.n
    · rw [if_pos hβ] at hm
      cases hm
      have := H.hid_lt ho
      omega
    · rw [if_neg hβ] at hm
      exact (H.hid b o ho).2.2 β l' hm

def Env.kill (E : Env) (β : Nat) : Env := { E with mu := fun γ => if γ = β then none else E.mu γ }
theorem Le.kill (E : Env) (β : Nat) : Le E (E.kill β) :=
  ⟨Nat.le_refl _, fun γ l _ hm => by simp only [Env.kill] at hm; split at hm; cases hm; exact hm, fun _ _ _ hf => hf, rfl, rfl⟩

theorem SR.kill (H : SR w0 E h w) (β : Nat) : SR w0 (E.kill β) (h.set β none) w := by
  refine ⟨by simp [H.len, Env.kill], H.below, H.frz, fun γ x hx => ?_, fun γ l hm => ?_, fun γ γ' l l' b o h1 h2 o1 o2 => ?_, fun γ l b o hm ho => ?_, fun b o ho => ⟨(H.old b o ho).1, (H.old b o ho).2.1, fun γ l hm => ?_⟩, fun b o ho => ⟨(H.hid b o ho).1, (H.hid b o ho).2.1, fun γ l hm => ?_⟩⟩
  · by_cases hγ : β = γ
    · subst hγ
      rcases Nat.lt_or_ge β h.length with h' | h'
      · rw [List.getElem?_set_self h'] at hx; cases hx
      · rw [List.getElem?_eq_none (by simpa using h')] at hx; cases hx
    · rw [List.getElem?_set_ne hγ] at hx
      obtain ⟨l, hl, hr⟩ := H.blk γ x hx
      exact ⟨l, by simp only [Env.kill]; rw [if_neg (fun e => hγ e.symm)]; exact hl, hr.mono (Le.kill E β) (Nat.le_refl _) rfl⟩
  · simp only [Env.kill] at hm
    split at hm
    · cases hm
    · rename_i hγ
      obtain ⟨x, hx⟩ := H.non γ l hm
      exact ⟨x, by rw [List.getElem?_set_ne (fun e => hγ e.symm)]; exact hx⟩
  · simp only [Env.kill] at h1 h2
    split at h1
    · cases h1
    · split at h2
      · cases h2
      · exact H.dis γ γ' l l' b o h1 h2 o1 o2
  · simp only [Env.kill] at hm ⊢
    split at hm
    · cases hm
    · exact H.dfr γ l b o hm ho
  · simp only [Env.kill] at hm
    split at hm
    · cases hm
    · exact (H.old b o ho).2.2 γ l hm
  · simp only [Env.kill] at hm
    split at hm
    · cases hm
    · exact (H.hid b o ho).2.2 γ l hm
end
end Go.Vs
namespace Go.Vs
set_option linter.unusedSimpArgs false
set_option linter.unusedVariables false

inductive O where
  | t (n : Nat)
  | k (v : V)
  | g (n : Nat)
  deriving Inhabited

/-- What a comparison's operands are. -/
inductive Q1 where
  | num | str | bool
  deriving DecidableEq, Inhabited

inductive Q where
  | num | str | bool | ptr | slc | map | fn | ifc
  | agg (ks : List Q1)
  deriving DecidableEq, Inhabited

/-- Some more: what a slice has room for; a beginning of a slice of which no room is told; bytealg.MakeNoZero; math/bits.Add64. -/
inductive J where
  | cap (x : O)
  | slw (es : Nat) (x hi : O)
  | mnz (ty : TypeId) (n : O)
  | adc (x y c : O)
  | min3 (x y z : O)
  | mkz (es bt : Nat) (ag : Bool) (z : List V) (len cap : O)
  | mkt (bt : Nat) (z : List V) (len : Nat) (ps : List (Nat × O)) (ty : TypeId)
  | cvb (ty : TypeId) (x : O)
  | apm (es bt : Nat) (ag : Bool) (z : List V) (s n : O)
  deriving Inhabited

inductive I where
  | mov (x : O)
  | pick (c a b : O)
  | new (z : List V) (ty : Option TypeId)
  | box (ty : Option TypeId) (x : O)
  | build (z : List V) (ps : List (Nat × Nat × O))
  | mks (fz : Bool) (es bt : Nat) (ag : Bool) (z : List V) (len : Nat) (ps : List (Nat × O))
  | load (n : Nat) (ag : Bool) (a : O)
  | store (n : Nat) (a x : O)
  | nilck (x : O)
  | bin (op : BinOp) (q : Q) (x y : O)
  | un (op : UnOp) (x : O)
  | cvi (k : IntKind) (x : O)
  | cvs (x : O)
  | s2b (fz : Bool) (x : O)
  | b2s (x : O)
  | arrp (n es : Nat) (x : O)
  | mki (t : TypeId) (x : O)
  | mkf (f : Fn) (first cap : List O)
  | mkm
  | mksl (es bt : Nat) (ag : Bool) (z : List V) (len cap : O)
  | slc (st : Bool) (es : Nat) (x : O) (lo hi mx : Option O)
  | slca (n es : Nat) (ag : Bool) (x : O) (lo hi mx : Option O)
  | fad (off : Nat) (x : O)
  | fld (off n : Nat) (ag : Bool) (x : O)
  | iad (es : Nat) (x i : O)
  | iada (len es : Nat) (x i : O)
  | idxs (x i : O)
  | idxa (len es : Nat) (ag : Bool) (x i : O)
  | look (q : Q) (zero : V) (x i : O) (ok : Bool)
  | upd (q : Q) (m k v : O)
  | ment (q : Q) (zero : V) (m k : O)
  | ests (m i v : O)
  | asrt (t : TypeId) (zero : V) (x : O) (ok : Bool)
  | ext (x : O) (i : Nat)
  | len (q : Q) (x : O)
  | lenc (n : Nat)
  | app (es bt : Nat) (ag : Bool) (ty : Option TypeId) (s x : O)
  | cpy (es : Nat) (d s : O)
  | clr (z : List V) (x : O)
  | max (x y : O)
  | min (x y : O)
  | call (f : O) (args : List O)
  | inv (r : O) (m : String) (args : List O)
  | dfr (f : O) (args : List O)
  | pan (x : O)
  | recov
  | pne (x y : O)
  | toU (x : O)
  | frU (ty : TypeId) (n : Nat) (x : O)
  | noEsc (x : O)
  | sld (x : O)
  | ustr (ty : TypeId) (p n : O)
  | j (k : J)
  deriving Inhabited

structure A where
  dst : Option Nat
  i : I
  g : Option (Nat × Bool) := none
  deriving Inhabited

/-- How a region that draws its order is gone through: 'free': this operation may be taken first; 'cho': each of these may come next. -/
inductive D where
  | done
  | free (i : Nat) (r : D)
  | cho (i : Nat) (r o : D)
  | com (l : List Nat) (r : D)
  /-- All of the region: one order for all orders. 'late': new blocks that are told when they are looked at; with each operation that turns the heap, the ones ahead of it that may come behind it. -/
  | lin (late : List Nat) (l : List (Nat × Option (List Nat)))
  | nope
  deriving Inhabited

inductive C where
  | skip
  | reg (ops : List A)
  | dreg (ops : List A) (d : D)
  | seq (a b : C)
  | cond (c : O) (a b : C)
  | block (id : Nat) (c : C)
  | loop (c : C)
  | exit (id : Nat)
  | ret
  | no
  deriving Inhabited

/-- A program, what its package variables hold, and its methods. -/
structure X where
  P : Program
  G : Nat → List V
  M : TypeId → String → Option (FuncId × Option Nat)

inductive Rz where
  | val (v : V) (h : Hp)
  | skip (h : Hp)
  | call (f : FuncId) (args : List V)
  | dfr (f : FuncId) (args : List V)
  | pan (v : V)

def O.isTmp : O → Bool
  | .t _ => true
  | _ => false

def O.ev (x : X) (t : Nat → V) : O → V
  | .t n => t n
  | .k v => v
  | .g n => .fp (x.G n) 0

def hget (h : Hp) (b : Nat) : Option Blk := (h[b]?).join

def sub (cs : List V) (o n : Nat) : Option (List V) := if o + n ≤ cs.length then some ((cs.drop o).take n) else none

def rd (h : Hp) : V → Nat → Option (List V)
  | .ptr b o, n => match hget h b with
    | some (.cells cs _) => sub cs o n
    | _ => none
  | .fp cs o, n => sub cs o n
  | _, _ => none

def setAll (cs : List V) (o : Nat) : List V → List V
  | [] => cs
  | x :: r => setAll (cs.set o x) (o + 1) r

def wr (h : Hp) (b o : Nat) (xs : List V) : Option Hp := match hget h b with
  | some (.cells cs ty) => if o + xs.length ≤ cs.length then some (h.set b (some (.cells (setAll cs o xs) ty))) else none
  | _ => none

def asV (ag : Bool) (l : List V) : Option V := if ag then some (.agg l) else match l with
  | [x] => some x
  | _ => none

/-- A slice's or a string's elements, cell by cell. -/
def src (h : Hp) (es : Nat) : V → Option (Nat × List V)
  | .nsl => some (0, [])
  | .sl b off len _ _ es' _ => if es' = es then (rd h (.ptr b off) (len * es)).map (len, ·) else none
  | .lst _ xs => if ∀ x ∈ xs, x.cells.length = es then some (xs.length, flat xs) else none
  | .str s => if es = 1 then some (s.length, s.map fun c => .int .u8 c.toNat) else none
  | _ => none

def fillV (cs : List V) : List (Nat × Nat × V) → Option (List V)
  | [] => some cs
  | (o, n, v) :: r => if v.cells.length = n ∧ o + n ≤ cs.length ∧ (∀ x ∈ v.cells, x.one = true) then fillV (setAll cs o v.cells) r else none

def chunk (es : Nat) (ag : Bool) : Nat → List V → List V
  | 0, _ => []
  | n + 1, l => (if ag then V.agg (l.take es) else (l.headD .nptr)) :: chunk es ag n (l.drop es)

def room : Nat := 2 ^ 46

def newSl (h : Hp) (n es : Nat) (ag : Bool) (cs : List V) (ty : Option TypeId := none) : Rz := .val (.sl h.length 0 n n false es ag) (h ++ [some (.cells cs ty)])

def bty (h : Hp) (b : Nat) : Option TypeId := match hget h b with
  | some (.cells _ ty) => ty
  | _ => none

/-- What is known of the row's type behind an append. -/
def appTy (h : Hp) (ex : Bool) (b off : Nat) (ty : Option TypeId) : Option TypeId := if ex then ty else if off = 0 ∧ bty h b = ty then ty else none

def appV (h : Hp) (es bt : Nat) (ag : Bool) (ty : Option TypeId) (s : V) (n : Nat) (ys : List V) : Option Rz :=
  match s with
  | .nsl => if n = 0 then some (.val .nsl h) else if n * bt ≤ room then some (newSl h n es ag ys ty) else none
  | .lst ex xs =>
    if n = 0 then some (.val s h)
    else if ex = true ∧ (∀ x ∈ xs, x.cells.length = es) ∧ (xs.length + n) * bt ≤ room then some (newSl h (xs.length + n) es ag (flat xs ++ ys) ty) else none
  | .sl b off len cap ex es' ag' =>
    if es' ≠ es ∨ ag' ≠ ag then none
    else if len + n ≤ cap then (wr h b (off + len * es) ys).map (.val (.sl b off (len + n) cap ex es ag))
    else if (len + n) * bt ≤ room then
      match rd h (.ptr b off) (len * es) with
      | some old => some (newSl (if ex then h else h.set b none) (len + n) es ag (old ++ ys) (appTy h ex b off ty))
      | none => none
    else none
  | _ => none

def intBin (op : BinOp) (k : IntKind) (a b : Int) : Option V :=
  match op with
  | .add => some (.int k (k.wrap (a + b)))
  | .sub => some (.int k (k.wrap (a - b)))
  | .mul => some (.int k (k.wrap (a * b)))
  | .quo => if b = 0 then none else some (.int k (k.wrap (a.tdiv b)))
  | .rem => if b = 0 then none else some (.int k (a.tmod b))
  | .and => some (.int k (k.wrap (BitVec.ofInt k.bits a &&& BitVec.ofInt k.bits b).toNat))
  | .or => some (.int k (k.wrap (BitVec.ofInt k.bits a ||| BitVec.ofInt k.bits b).toNat))
  | .xor => some (.int k (k.wrap (BitVec.ofInt k.bits a ^^^ BitVec.ofInt k.bits b).toNat))
  | .andNot => some (.int k (k.wrap (BitVec.ofInt k.bits a &&& ~~~BitVec.ofInt k.bits b).toNat))
  | .eql => some (.bool (a == b))
  | .neq => some (.bool (a != b))
  | .lss => some (.bool (a < b))
  | .leq => some (.bool (a ≤ b))
  | .gtr => some (.bool (a > b))
  | .geq => some (.bool (a ≥ b))
  | _ => none

def strBin (op : BinOp) (a b : List UInt8) : Option V :=
  match op with
  | .add => if a.length + b.length ≤ room then some (.str (a ++ b)) else none
  | .eql => some (.bool (a == b))
  | .neq => some (.bool (!(a == b)))
  | .lss => some (.bool (Op.bytesLess a b))
  | .leq => some (.bool (Op.bytesLess a b || a == b))
  | .gtr => some (.bool (!(Op.bytesLess a b || a == b)))
  | .geq => some (.bool (!(Op.bytesLess a b)))
  | _ => none

/-- Go's '==' where it is told. -/
def veq1 : Q1 → V → V → Option Bool
  | .num, .int j a, .int k b => if j = k then some (a == b) else none
  | .bool, .bool a, .bool b => some (a == b)
  | .str, .str a, .str b => some (a == b)
  | _, _, _ => none

def veqs : List Q1 → List V → List V → Option Bool
  | [], [], [] => some true
  | k :: ks, a :: r, b :: s => match veq1 k a b, veqs ks r s with
    | some x, some y => some (x && y)
    | _, _ => none
  | _, _, _ => none

def veq (q : Q) (x y : V) : Option Bool :=
  match q, x, y with
  | .num, .int j a, .int k b => if j = k then some (a == b) else none
  | .bool, .bool a, .bool b => some (a == b)
  | .str, .str a, .str b => some (a == b)
  | .ptr, .nptr, .nptr => some true
  | .ptr, .nptr, .ptr _ _ => some false
  | .ptr, .ptr _ _, .nptr => some false
  | .slc, .nsl, .nsl => some true
  | .slc, .nsl, .sl .. => some false
  | .slc, .sl .., .nsl => some false
  | .slc, .nsl, .lst .. => some false
  | .slc, .lst .., .nsl => some false
  | .map, .nmap, .nmap => some true
  | .map, .nmap, .map _ => some false
  | .map, .map _, .nmap => some false
  | .fn, .nfn, .nfn => some true
  | .fn, .nfn, .fn .. => some false
  | .fn, .fn .., .nfn => some false
  | .ifc, .nifc, .nifc => some true
  | .ifc, .nifc, .ifc _ _ => some false
  | .ifc, .ifc _ _, .nifc => some false
  | .agg ks, .agg a, .agg b => veqs ks a b
  | _, _, _ => none

def binV (op : BinOp) (q : Q) (x y : V) : Option V :=
  match q with
  | .num => match x, y with
    | .int k a, .int k' b =>
      match op with
      | .shl => if 0 ≤ b then some (.int k (k.wrap (a * 2 ^ (Min.min b.toNat k.bits)))) else none
      | .shr => if 0 ≤ b then some (.int k (a.fdiv (2 ^ (Min.min b.toNat k.bits)))) else none
      | _ => if k = k' then intBin op k a b else none
    | _, _ => none
  | .str => match x, y with
    | .str a, .str b => strBin op a b
    | _, _ => none
  | q => match op with
    | .eql => (veq q x y).map .bool
    | .neq => (veq q x y).map fun b => .bool !b
    | _ => none

def unV (op : UnOp) (x : V) : Option V :=
  match op, x with
  | .not, .bool b => some (.bool !b)
  | .neg, .int k n => some (.int k (k.wrap (0 - n)))
  | .xor, .int k n => some (.int k (k.wrap (BitVec.ofInt k.bits (if k.signed then -1 else k.max) ^^^ BitVec.ofInt k.bits n).toNat))
  | _, _ => none

def bnd (x : X) (t : Nat → V) (d : Nat) : Option O → Option Nat
  | none => some d
  | some o => match o.ev x t with
    | .int _ n => if 0 ≤ n then some n.toNat else none
    | _ => none

def upTo {α : Type} : Option Nat → List α → List α
  | none, xs => xs
  | some n, xs => xs.take n

def slcV (es : Nat) (v : V) (l : Nat) (h m : Option Nat) : Option V :=
  match v, m with
  | .str s, none => if l ≤ h.getD s.length ∧ h.getD s.length ≤ s.length then some (.str ((upTo h s).drop l)) else none
  | .nsl, _ => if l = 0 ∧ h.getD 0 = 0 ∧ m.getD 0 = 0 then some .nsl else none
  | .lst ex xs, none =>
    if l ≤ h.getD xs.length ∧ h.getD xs.length ≤ xs.length ∧ (∀ x ∈ xs, x.cells.length = es) then some (.lst (ex && h.getD xs.length == xs.length) ((upTo h xs).drop l)) else none
  | .lst _ xs, some m =>
    if l ≤ h.getD xs.length ∧ h.getD xs.length ≤ m ∧ m ≤ xs.length ∧ (∀ x ∈ xs, x.cells.length = es) then some (.lst (h.getD xs.length == m) ((upTo h xs).drop l)) else none
  | .sl b off len cap ex es' ag, none =>
    if es' = es ∧ l ≤ h.getD len ∧ h.getD len ≤ cap then some (.sl b (off + l * es) (h.getD len - l) (cap - l) ex es ag) else none
  | .sl b off len cap _ es' ag, some m =>
    if es' = es ∧ l ≤ h.getD len ∧ h.getD len ≤ m ∧ m ≤ cap then some (.sl b (off + l * es) (h.getD len - l) (m - l) true es ag) else none
  | _, _ => none

def findM (q : Q) (k : V) : List (V × V) → Option (Option V)
  | [] => some none
  | (a, v) :: r => match veq q k a with
    | some true => some (some v)
    | some false => findM q k r
    | none => none

def putM (q : Q) (k v : V) : List (V × V) → Option (List (V × V))
  | [] => some [(k, v)]
  | (a, u) :: r => match veq q k a with
    | some true => some ((k, v) :: r)
    | some false => (putM q k v r).map ((a, u) :: ·)
    | none => none

/-- Where a key's entry lies, or will lie. -/
def idxM (q : Q) (k : V) : List (V × V) → Nat
  | [] => 0
  | (a, _) :: r => match veq q k a with
    | some true => 0
    | _ => idxM q k r + 1

def V.isStr : V → Bool
  | .str _ => true
  | _ => false

def V.isByte : V → Bool
  | .int .u8 _ => true
  | _ => false

def evs (x : X) (t : Nat → V) (l : List O) : List V := l.map (O.ev x t)

def callV (f : V) (args : List V) : Option (FuncId × List V) :=
  match f with
  | .fn (.func f) first cap => some (f, first ++ args ++ cap)
  | _ => none

def lenV (h : Hp) (q : Q) (v : V) : Option V := match v with
  | .str s => if q = .str then some (.int .i64 s.length) else none
  | .nsl => if q = .slc then some (.int .i64 0) else none
  | .sl _ _ len _ _ _ _ => if q = .slc then some (.int .i64 len) else none
  | .lst _ xs => if q = .slc then some (.int .i64 xs.length) else none
  | .nmap => if q = .map then some (.int .i64 0) else none
  | .map b => if q = .map then (match hget h b with
    | some (.map es) => some (.int .i64 es.length)
    | _ => none) else none
  | _ => none

/-- A method of an interface's value: what lies behind is there. -/
def methNil (x : X) (m : String) : List V → Bool
  | .ifc t v :: _ => (match x.M t m, v with
    | some (_, none), _ => true
    | some (_, some off), .agg cs => decide (off < cs.length)
    | _, _ => false)
  | _ => false

def aopJ (x : X) (t : Nat → V) (h : Hp) : J → Option Rz
  | .cap a => match a.ev x t with
    | .nsl => some (.val (.int .i64 0) h)
    | .sl _ _ _ cap ex _ _ => if ex then some (.val (.int .i64 cap) h) else none
    | .lst ex xs => if ex then some (.val (.int .i64 xs.length) h) else none
    | _ => none
  | .slw es a hi => match a.ev x t, hi.ev x t with
    | .sl b off _ cap _ es' ag, .int _ n => if es' = es ∧ 0 ≤ n ∧ n.toNat ≤ cap then some (.val (.sl b off n.toNat n.toNat false es ag) h) else none
    | _, _ => none
  | .mnz ty n => match n.ev x t with
    | .int .i64 n => if 0 ≤ n ∧ n ≤ room then some (.val (.sl h.length 0 n.toNat n.toNat false 1 false) (h ++ [some (.cells [] (some ty))])) else none
    | _ => none
  | .adc a b c => match a.ev x t, b.ev x t, c.ev x t with
    | .int .u64 a, .int .u64 b, .int .u64 c => if 0 ≤ c ∧ c ≤ 1 then some (.val (.tup [.int .u64 ((a.toNat + b.toNat + c.toNat) % 2 ^ 64 : Nat), .int .u64 ((a.toNat + b.toNat + c.toNat) / 2 ^ 64 : Nat)]) h) else none
    | _, _, _ => none
  | .min3 a b c => match a.ev x t, b.ev x t, c.ev x t with
    | .int k a, .int k' b, .int k'' c => if k = k' ∧ k = k'' then some (.val (.int k (if c < (if b < a then b else a) then c else (if b < a then b else a))) h) else none
    | _, _, _ => none
  | .mkz es bt ag z l c => match l.ev x t, c.ev x t with
    | .int .i64 l, .int .i64 c => if 0 ≤ l ∧ l = c ∧ c * bt ≤ room ∧ c ≤ room then some (.val (.lst true (chunk es ag c.toNat (List.replicate c.toNat z).flatten)) h) else none
    | _, _ => none
  | .mkt bt z len ps ty => match fillV z (ps.map fun (i, a) => (i * 1, 1, a.ev x t)) with
    | some cs => some (.val (.sl h.length 0 len len true 1 false) (h ++ [some (.cells cs (some ty))]))
    | none => none
  | .cvb ty a => match a.ev x t with
    | .sl b off n c ex es ag => match hget h b with
      | some (.cells cs (some ty')) => if ty' = ty ∧ cs.length = n ∧ c = n ∧ 0 < n ∧ off = 0 ∧ ex = true ∧ es = 1 ∧ ag = false then some (.val (.lst true (chunk 1 false n cs)) (h.set b none)) else none
      | _ => none
    | _ => none
  | .apm es bt ag z s n => match s.ev x t, n.ev x t with
    | .nsl, .int .i64 n => if 0 < n ∧ n * bt ≤ room then some (.val (.sl h.length 0 n.toNat n.toNat false es ag) (h ++ [some (.cells (List.replicate n.toNat z).flatten)])) else none
    | _, _ => none

def aop (x : X) (t : Nat → V) (h : Hp) : I → Option Rz
  | .mov a => some (.val (a.ev x t) h)
  | .pick c a b => match c.ev x t with
    | .bool c => some (.val (if c then a.ev x t else b.ev x t) h)
    | _ => none
  | .new z ty => some (.val (.ptr h.length 0) (h ++ [some (.cells z ty)]))
  | .box ty a => if ∀ c ∈ (a.ev x t).cells, c.one = true then some (.val (.ptr h.length 0) (h ++ [some (.cells (a.ev x t).cells ty)])) else none
  | .build z ps => (fillV z (ps.map fun (o, n, a) => (o, n, a.ev x t))).map fun cs => .val (.agg cs) h
  | .mks fz es bt ag z len ps =>
    match fillV z (ps.map fun (i, a) => (i * es, es, a.ev x t)) with
    | some cs => if fz then some (.val (.lst true (chunk es ag len cs)) h) else some (.val (.sl h.length 0 len len true es ag) (h ++ [some (.cells cs)]))
    | none => none
  | .load n ag a => ((rd h (a.ev x t) n).bind (asV ag)).map fun v => .val v h
  | .store n a v => match a.ev x t with
    | .ptr b o => if (v.ev x t).cells.length = n ∧ (∀ c ∈ (v.ev x t).cells, c.one = true) then (wr h b o (v.ev x t).cells).map .skip else none
    | _ => none
  | .nilck a => match a.ev x t with
    | .ptr b o => some (.val (.ptr b o) h)
    | .fp cs o => some (.val (.fp cs o) h)
    | .fn (.func f) a b => some (.val (.fn (.func f) a b) h)
    | .fn (.method m) a b => if methNil x m a then some (.val (.fn (.method m) a b) h) else none
    | .ifc ty v => some (.val (.ifc ty v) h)
    | _ => none
  | .bin op q a b => (if q = .ifc ∧ a.isTmp = true ∧ b.isTmp = true then none else binV op q (a.ev x t) (b.ev x t)).map fun v => .val v h
  | .un op a => (unV op (a.ev x t)).map fun v => .val v h
  | .cvi k a => match a.ev x t with
    | .int _ n => some (.val (.int k (k.wrap n)) h)
    | _ => none
  | .cvs a => match a.ev x t with
    | .str s => some (.val (.str s) h)
    | _ => none
  | .s2b fz a => match a.ev x t with
    | .str s => if fz then some (.val (.lst false (s.map fun c => .int .u8 c.toNat)) h) else some (newSl h s.length 1 false (s.map fun c => .int .u8 c.toNat))
    | _ => none
  | .b2s a => if (a.ev x t).isStr = true then none else match src h 1 (a.ev x t) with
    | some (_, cs) => if ∀ c ∈ cs, c.isByte = true then some (.val (.str (cs.map fun | .int _ n => UInt8.ofNat n.toNat | _ => 0)) h) else none
    | none => none
  | .arrp n es a => match a.ev x t with
    | .sl b off len _ _ es' _ => if n ≤ len ∧ es' = es ∧ 0 < n then some (.val (.ptr b off) h) else none
    | .lst _ xs => if n ≤ xs.length ∧ 0 < n then some (.val (.fp (flat xs) 0) h) else none
    | _ => none
  | .mki ty a => some (.val (.ifc ty (a.ev x t)) h)
  | .mkf f first cap => some (.val (.fn f (evs x t first) (evs x t cap)) h)
  | .mkm => some (.val (.map h.length) (h ++ [some (.map [])]))
  | .mksl es bt ag z l c => match l.ev x t, c.ev x t with
    | .int .i64 l, .int .i64 c => if 0 ≤ l ∧ l ≤ c ∧ c * bt ≤ room ∧ c ≤ room then some (.val (.sl h.length 0 l.toNat c.toNat true es ag) (h ++ [some (.cells (List.replicate c.toNat z).flatten)])) else none
    | _, _ => none
  | .slc st es a lo hi mx =>
    if (a.ev x t).isStr ≠ st then none else
    match bnd x t 0 lo, hi.map (fun o => bnd x t 0 (some o)), mx.map (fun o => bnd x t 0 (some o)) with
    | some l, none, none => (slcV es (a.ev x t) l none none).map fun v => .val v h
    | some l, some (some u), none => (slcV es (a.ev x t) l (some u) none).map fun v => .val v h
    | some l, some (some u), some (some m) => (slcV es (a.ev x t) l (some u) (some m)).map fun v => .val v h
    | _, _, _ => none
  | .slca n es ag a lo hi mx =>
    match bnd x t 0 lo, bnd x t n hi, bnd x t n mx with
    | some l, some u, some m =>
      if l ≤ u ∧ u ≤ m ∧ m ≤ n then match a.ev x t with
        | .ptr b o => if (rd h (.ptr b o) (n * es)).isSome then some (.val (.sl b (o + l * es) (u - l) (m - l) true es ag) h) else none
        | .fp cs o => (sub cs o (n * es)).map fun c => .val (.lst (u == m) (((chunk es ag n c).take u).drop l)) h
        | _ => none
      else none
    | _, _, _ => none
  | .fad off a => match a.ev x t with
    | .ptr b o => some (.val (.ptr b (o + off)) h)
    | .fp cs o => some (.val (.fp cs (o + off)) h)
    | _ => none
  | .fld off n ag a => match a.ev x t with
    | .agg cs => ((sub cs off n).bind (asV ag)).map fun v => .val v h
    | _ => none
  | .iad es a i => match a.ev x t, i.ev x t with
    | .sl b off len _ _ es' _, .int _ i => if es' = es ∧ 0 ≤ i ∧ i < len then some (.val (.ptr b (off + i.toNat * es)) h) else none
    | .lst _ xs, .int _ i => if 0 ≤ i ∧ i < xs.length ∧ (xs.getD i.toNat .nptr).cells.length = es then some (.val (.fp (xs.getD i.toNat .nptr).cells 0) h) else none
    | _, _ => none
  | .iada len es a i => match a.ev x t, i.ev x t with
    | .ptr b o, .int _ i => if 0 ≤ i ∧ i < len then some (.val (.ptr b (o + i.toNat * es)) h) else none
    | .fp cs o, .int _ i => if 0 ≤ i ∧ i < len then some (.val (.fp cs (o + i.toNat * es)) h) else none
    | _, _ => none
  | .idxs a i => match a.ev x t, i.ev x t with
    | .str s, .int _ i => if 0 ≤ i ∧ i < s.length then some (.val (.int .u8 (s.getD i.toNat 0).toNat) h) else none
    | _, _ => none
  | .idxa len es ag a i => match a.ev x t, i.ev x t with
    | .agg cs, .int _ i => if 0 ≤ i ∧ i < len then ((sub cs (i.toNat * es) es).bind (asV ag)).map fun v => .val v h else none
    | _, _ => none
  | .look q zero a i ok => match a.ev x t with
    | .nmap => some (.val (if ok then .tup [zero, .bool false] else zero) h)
    | .map b => match hget h b with
      | some (.map es) => (findM q (i.ev x t) es).map fun r => .val (if ok then .tup [r.getD zero, .bool r.isSome] else r.getD zero) h
      | _ => none
    | _ => none
  | .upd q m k v => match m.ev x t with
    | .map b => match hget h b with
      | some (.map es) => (putM q (k.ev x t) (v.ev x t) es).map fun es => .skip (h.set b (some (.map es)))
      | _ => none
    | _ => none
  | .ment q z m k => match m.ev x t with
    | .map b => match hget h b with
      | some (.map es) => match findM q (k.ev x t) es with
        | some r => (putM q (k.ev x t) (r.getD z) es).map fun es' => .val (.tup [r.getD z, .int .i64 (idxM q (k.ev x t) es)]) (h.set b (some (.map es')))
        | none => none
      | _ => none
    | _ => none
  | .ests m i v => match m.ev x t, i.ev x t with
    | .map b, .int _ n => match hget h b with
      | some (.map es) => match es[n.toNat]? with
        | some e => if 0 ≤ n then some (.skip (h.set b (some (.map (es.set n.toNat (e.1, v.ev x t)))))) else none
        | none => none
      | _ => none
    | _, _ => none
  | .asrt ty zero a ok => match a.ev x t with
    | .ifc u v => if u = ty then some (.val (if ok then .tup [v, .bool true] else v) h) else if ok then some (.val (.tup [zero, .bool false]) h) else none
    | .nifc => if ok then some (.val (.tup [zero, .bool false]) h) else none
    | _ => none
  | .ext a i => match a.ev x t with
    | .tup vs => (vs[i]?).map fun v => .val v h
    | _ => none
  | .len q a => (lenV h q (a.ev x t)).map fun v => .val v h
  | .lenc n => some (.val (.int .i64 n) h)
  | .app es bt ag ty s a => match src h es (a.ev x t) with
    | some (n, ys) => appV h es bt ag ty (s.ev x t) n ys
    | none => none
  | .cpy es d s => match src h es (s.ev x t) with
    | some (n, ys) => match d.ev x t with
      | .nsl => some (.val (.int .i64 0) h)
      | .sl b off len _ _ es' _ => if es' = es then (wr h b off (ys.take (Min.min n len * es))).map (.val (.int .i64 (Min.min n len : Nat))) else none
      | _ => none
    | none => none
  | .clr z a => match a.ev x t with
    | .nsl => some (.val (.tup []) h)
    | .sl b off len _ _ es _ => if z.length = es then (if len = 0 then some (.val (.tup []) h) else (wr h b off (List.replicate len z).flatten).map (.val (.tup []))) else none
    | _ => none
  | .max a b => match a.ev x t, b.ev x t with
    | .int k a, .int k' b => if k = k' then some (.val (.int k (if b > a then b else a)) h) else none
    | _, _ => none
  | .min a b => match a.ev x t, b.ev x t with
    | .int k a, .int k' b => if k = k' then some (.val (.int k (if b < a then b else a)) h) else none
    | _, _ => none
  | .call f args => (callV (f.ev x t) (evs x t args)).map fun (f, l) => .call f l
  | .inv r m args => match r.ev x t with
    | .ifc ty v => match x.M ty m with
      | some (f, none) => some (.call f (v :: evs x t args))
      | some (f, some off) => match v with
        | .agg cs => (cs[off]?).map fun c => .call f (c :: evs x t args)
        | _ => none
      | none => none
    | _ => none
  | .dfr f args => (callV (f.ev x t) (evs x t args)).map fun (f, l) => .dfr f l
  | .pan a => match a.ev x t with
    | .ifc ty v => some (.pan (.ifc ty v))
    | _ => none
  | .recov => none
  | .pne a b => match a.ev x t, b.ev x t with
    | .ptr b o, .ptr b' o' => if b = b' ∧ o = o' ∧ (hget h b).isSome = true then some (.val (.bool false) h) else none
    | _, _ => none
  | .toU a => match a.ev x t with
    | .nptr => some (.val .nptr h)
    | .ptr b o => match rd h (.ptr b o) 1 with
      | some _ => some (.val (.ptr b o) h)
      | none => none
    | _ => none
  | .frU ty n a => match a.ev x t with
    | .nptr => some (.val .nptr h)
    | .ptr b o => match hget h b with
      | some (.cells cs (some ty')) => if ty' = ty ∧ o = 0 ∧ n ≤ cs.length then some (.val (.ptr b o) h) else none
      | _ => none
    | _ => none
  | .noEsc a => some (.val (a.ev x t) h)
  | .sld a => match a.ev x t with
    | .nsl => some (.val .nptr h)
    | .sl b off _ cap _ _ _ => if 0 < cap then some (.val (.ptr b off) h) else none
    | _ => none
  | .ustr ty p n => match p.ev x t, n.ev x t with
    | .nptr, .int .i64 n => if n = 0 then some (.val (.str []) h) else none
    | .ptr b o, .int .i64 n => if n = 0 then some (.val (.str []) h) else
      match hget h b with
      | some (.cells cs (some ty')) => if ty' = ty ∧ o = 0 ∧ 0 ≤ n ∧ n ≤ 9223372036854775807 then (match sub cs 0 n.toNat with
        | some l => if ∀ c ∈ l, c.isByte = true then some (.val (.str (l.map fun | .int _ n => UInt8.ofNat n.toNat | _ => 0)) (h.set b none)) else none
        | none => none) else none
      | _ => none
    | _, _ => none
  | .j k => aopJ x t h k

end Go.Vs
namespace Go.Vs
open Go.RowKit

structure St where
  t : Nat → V
  h : Hp
  d : List (FuncId × List V)

inductive Ex where
  | normal
  | exit (id : Nat)
  | ret
  | pan (v : V)

inductive Res where
  | ret (v : V)
  | pan (v : V)

def put (t : Nat → V) (d : Option Nat) (v : V) : Nat → V := match d with
  | some d => fun n => if n = d then v else t n
  | none => t

def udf : V := .tup []

def VRs (E : Env) (xs : List V) (vs : Array Value) : Prop := vs.size = xs.length ∧ ∀ (j : Nat) x v, xs[j]? = some x → vs[j]? = some v → VR E x v

def entry (v : Value) : PanicEntry := { v, recovered := false }

def RR (E : Env) : Res → Ending → Prop
  | .ret x, .returned v => VR E x v
  | .pan x, .panicked l => ∃ v, VR E x v ∧ l = [entry v]
  | _, _ => False

def callable (P : Program) (f : FuncId) : Bool := (P.funcs[f]?).any fun fn => fn.body.isSome && fn.name != "runtime.NumGoroutine"

/-- Every package variable that is told reads as told. -/
def GR (x : X) (E : Env) : Prop := ∀ g, VR E (.fp (x.G g) 0) (.pointer (some ⟨g, 0, none⟩))
theorem GR.mono {x : X} {E E' : Env} (h : GR x E) (hE : Le E E') : GR x E' := fun g => (h g).mono hE

def ACalls (x : X) (f : FuncId) (args : List V) (h : Hp) (R : Res → Hp → Prop) : Prop :=
  callable x.P f = true ∧ ∀ (w0 : World) (E : Env) (w : World) (vs : Array Value), SR w0 E h w → GR x E → VRs E args vs →
    Calls x.P f vs w fun e w' => ∃ E' h' r, Le E E' ∧ SR w0 E' h' w' ∧ RR E' r e ∧ R r h'

theorem ACalls.mono {x : X} {f : FuncId} {args : List V} {h : Hp} {R R' : Res → Hp → Prop} (H : ACalls x f args h R) (hr : ∀ r h', R r h' → R' r h') : ACalls x f args h R' :=
  ⟨H.1, fun w0 E w vs hs hg hv => (H.2 w0 E w vs hs hg hv).mono fun _ _ ⟨E', h', r, h1, h2, h3, h4⟩ => ⟨E', h', r, h1, h2, h3, hr r h' h4⟩⟩

/-- A deferred call; 'p': what its caller panics with; behind it: whether that was recovered. -/
def mode : Option Value → FrameMode
  | none => .returning
  | some v => .panicking [entry v]

def wanted (t : Nat → V) : Option (Nat × Bool) → Bool
  | none => true
  | some (d, b) => match t d with
    | .bool c => c == b
    | _ => false

/-- One operation, and what is to be shown behind it. -/
def vop (x : X) (o : A) (Q : Ex → St → Prop) (K : St → Prop) (s : St) : Prop :=
  if wanted s.t o.g = true then
    match aop x s.t s.h o.i with
    | some (.val v h) => K { s with t := put s.t o.dst v, h }
    | some (.skip h) => K { s with t := put s.t o.dst udf, h }
    | some (.call f args) => ACalls x f args s.h fun r h => match r with
      | .ret v => K { s with t := put s.t o.dst v, h }
      | .pan v => Q (.pan v) { s with h }
    | some (.dfr f args) => K { s with t := put s.t o.dst udf, d := (f, args) :: s.d }
    | some (.pan v) => Q (.pan v) s
    | none => False
  else K { s with t := put s.t o.dst udf }

def vops (x : X) (Q : Ex → St → Prop) : List A → St → Prop
  | [], s => Q .normal s
  | o :: r, s => vop x o Q (vops x Q r) s

/-- One operation of a region that draws its order: what is to be shown behind a panic hangs on no temporary. -/
def vopD (x : X) (o : A) (Q : Ex → St → Prop) (K : St → Prop) (s : St) : Prop :=
  vop x o (fun e s => ∀ t, Q e { s with t }) K s

/-- What an operation comes to, where it leaves the heap alone. -/
def Val (x : X) (o : A) (t : Nat → V) (h : Hp) (v : V) : Prop :=
  (wanted t o.g = true → aop x t h o.i = some (.val v h) ∨ ∃ f args, aop x t h o.i = some (.call f args) ∧ ACalls x f args h fun a b => a = .ret v ∧ b = h) ∧ (wanted t o.g = false → v = udf)

/-- .. where it turns the heap. -/
def HVal (x : X) (o : A) (t : Nat → V) (h h1 : Hp) (v : V) : Prop :=
  wanted t o.g = true ∧ (aop x t h o.i = some (.val v h1) ∨ ∃ f args, aop x t h o.i = some (.call f args) ∧ ACalls x f args h fun a b => a = .ret v ∧ b = h1)

/-- What operations come to in whatever order: 'c': the one that turns the heap. -/
structure ComOk (x : X) (ops : List A) (l : List Nat) (c : Option Nat) (s : St) (tf : Nat → V) (h1 : Hp) : Prop where
  off : ∀ n, (∀ i ∈ l, ∀ o, ops[i]? = some o → o.dst ≠ some n) → s.t n = tf n
  val : ∀ i ∈ l, ∃ o e, ops[i]? = some o ∧ o.dst = some e ∧ if c = some i then HVal x o tf s.h h1 (tf e) else Val x o tf s.h (tf e) ∧ Val x o tf h1 (tf e)
  same : (∀ i ∈ l, c ≠ some i) → h1 = s.h

/-- New blocks, told. -/
def tell1 (s : St) : Option A → St
  | some (A.mk (some d) (.new z ty) _) => { s with t := put s.t (some d) (.ptr s.h.length 0), h := s.h ++ [some (.cells z ty)] }
  | _ => s

def tell (ops : List A) : List Nat → St → St
  | [], s => s
  | a :: r, s => tell ops r (tell1 s ops[a]?)

def dstOf (as : List A) (i : Nat) : Option Nat := (as[i]?).bind (·.dst)

/-- The temporaries that an instruction looks at. -/
def O.use : O → List Nat
  | .t n => [n]
  | _ => []
def usesO (l : List O) : List Nat := l.flatMap O.use
def useOo : Option O → List Nat
  | none => []
  | some o => o.use

def J.uses : J → List Nat
  | .cap a => a.use
  | .slw _ a b => a.use ++ b.use
  | .mnz _ a => a.use
  | .adc a b c => a.use ++ b.use ++ c.use
  | .min3 a b c => a.use ++ b.use ++ c.use
  | .mkz _ _ _ _ a b => a.use ++ b.use
  | .mkt _ _ _ ps _ => ps.flatMap fun p => p.2.use
  | .cvb _ a => a.use
  | .apm _ _ _ _ a b => a.use ++ b.use

def I.uses : I → List Nat
  | .mov a => a.use
  | .pick a b c => a.use ++ b.use ++ c.use
  | .new _ _ => []
  | .box _ a => a.use
  | .build _ ps => ps.flatMap fun p => p.2.2.use
  | .mks _ _ _ _ _ _ ps => ps.flatMap fun p => p.2.use
  | .load _ _ a => a.use
  | .store _ a b => a.use ++ b.use
  | .nilck a => a.use
  | .bin _ _ a b => a.use ++ b.use
  | .un _ a => a.use
  | .cvi _ a => a.use
  | .cvs a => a.use
  | .s2b _ a => a.use
  | .b2s a => a.use
  | .arrp _ _ a => a.use
  | .mki _ a => a.use
  | .mkf _ a b => usesO a ++ usesO b
  | .mkm => []
  | .mksl _ _ _ _ a b => a.use ++ b.use
  | .slc _ _ a b c d => a.use ++ useOo b ++ useOo c ++ useOo d
  | .slca _ _ _ a b c d => a.use ++ useOo b ++ useOo c ++ useOo d
  | .fad _ a => a.use
  | .fld _ _ _ a => a.use
  | .iad _ a b => a.use ++ b.use
  | .iada _ _ a b => a.use ++ b.use
  | .idxs a b => a.use ++ b.use
  | .idxa _ _ _ a b => a.use ++ b.use
  | .look _ _ a b _ => a.use ++ b.use
  | .upd _ a b c => a.use ++ b.use ++ c.use
  | .ment _ _ a b => a.use ++ b.use
  | .ests a b c => a.use ++ b.use ++ c.use
  | .asrt _ _ a _ => a.use
  | .ext a _ => a.use
  | .len _ a => a.use
  | .lenc _ => []
  | .app _ _ _ _ a b => a.use ++ b.use
  | .cpy _ a b => a.use ++ b.use
  | .clr _ a => a.use
  | .max a b => a.use ++ b.use
  | .min a b => a.use ++ b.use
  | .call a l => a.use ++ usesO l
  | .inv a _ l => a.use ++ usesO l
  | .dfr a l => a.use ++ usesO l
  | .pan a => a.use
  | .recov => []
  | .pne a b => a.use ++ b.use
  | .toU a => a.use
  | .frU _ _ a => a.use
  | .noEsc a => a.use
  | .sld a => a.use
  | .ustr _ a b => a.use ++ b.use
  | .j k => k.uses

def A.looks (b : A) : List Nat := b.i.uses ++ (match b.g with | some (d, _) => [d] | none => [])

/-- The new blocks that this operation looks at. -/
def nd (as : List A) (L : List Nat) (i : Nat) : List Nat := L.filter fun a => match as[i]?, dstOf as a with
  | some o, some d => o.looks.contains d
  | _, _ => false

/-- One order for all orders. -/
def vLin (x : X) (ops : List A) (L : List Nat) (Q : Ex → St → Prop) : List (Nat × Option (List Nat)) → St → Prop
  | [], s => Q .normal s
  | (i, none) :: r, s => ∃ b v, ops[i]? = some b ∧ Val x b s.t s.h v ∧ vLin x ops L Q r { s with t := put s.t b.dst v }
  | (i, some re) :: r, s => ∃ b, ops[i]? = some b ∧ vopD x b Q (fun s' => (∀ j ∈ re, ∃ o e, ops[j]? = some o ∧ o.dst = some e ∧ Val x o s'.t s'.h (s'.t e)) ∧ vLin x ops L Q r s') (tell ops (nd ops L i) s)

def vD (x : X) (ops : List A) (Q : Ex → St → Prop) : D → St → Prop
  | .done, s => Q .normal s
  | .free i r, s => match ops[i]? with
    | some b => vopD x b Q (vD x ops Q r) s
    | none => False
  | .cho i r o, s => (match ops[i]? with
    | some b => vopD x b Q (vD x ops Q r) s
    | none => False) ∧ vD x ops Q o s
  | .com l r, s => ∃ tf h1 c, ComOk x ops l c s tf h1 ∧ vD x ops Q r { s with t := tf, h := h1 }
  | .nope, _ => True
  | .lin L l, s => vLin x ops L Q l s

def vc (x : X) : C → (Ex → St → Prop) → St → Prop
  | .skip, Q, s => Q .normal s
  | .reg ops, Q, s => vops x Q ops s
  | .dreg ops d, Q, s => vD x ops Q d s
  | .seq a b, Q, s => vc x a (fun e s => match e with | .normal => vc x b Q s | e => Q e s) s
  | .cond c a b, Q, s => match c.ev x s.t with
    | .bool true => vc x a Q s
    | .bool false => vc x b Q s
    | _ => False
  | .block id c, Q, s => vc x c (fun e s => match e with | .exit i => if i = id then Q .normal s else Q (.exit i) s | e => Q e s) s
  | .loop c, Q, s => ∃ (I : Nat → St → Prop), (∃ n, I n s) ∧ ∀ n s, I n s → vc x c (fun e s => match e with | .normal => ∃ m, m < n ∧ I m s | e => Q e s) s
  | .exit id, Q, s => Q (.exit id) s
  | .ret, Q, s => Q .ret s
  | .no, _, _ => False

end Go.Vs
namespace Go.Vs
open Go.RowKit

/-- The cells of block b from p on hold what l tells. -/
def Row (E : Env) (w : World) (b p : Nat) (l : List V) (vs : List Value) : Prop :=
  vs.length = l.length ∧ ∀ (j : Nat) u, vs[j]? = some u → w.cell? ⟨b, p + j, none⟩ = some u ∧ u.oneCell' = true ∧ ∀ x, l[j]? = some x → VR E x u

theorem sub_spec {cs l : List V} {o n : Nat} (h : sub cs o n = some l) : o + n ≤ cs.length ∧ l.length = n ∧ ∀ j, j < n → l[j]? = cs[o + j]? := by
  unfold sub at h
  split at h
  · rename_i hle
    cases h
    refine ⟨hle, by simp; omega, fun j hj => ?_⟩
    rw [List.getElem?_take_of_lt hj, List.getElem?_drop]
  · cases h

theorem Addr.add_none (b p j : Nat) : (⟨b, p, none⟩ : Addr).add j = ⟨b, p + j, none⟩ := by unfold Addr.add; split <;> simp_all

section
variable {w0 w : World} {E : Env} {h : Hp} {P : Program}

theorem exists_list (n : Nat) (f : Nat → Value) : ∃ vs : List Value, vs.length = n ∧ ∀ j u, vs[j]? = some u → u = f j ∧ j < n :=
  ⟨(List.range n).map f, by simp, fun j u hu => by
    rw [List.getElem?_map] at hu
    rcases Nat.lt_or_ge j n with hj | hj
    · rw [List.getElem?_range hj] at hu
      exact ⟨(by simpa using hu.symm), hj⟩
    · rw [List.getElem?_eq_none (by simpa using hj)] at hu; cases hu⟩

theorem exists_vals {n : Nat} {p : Nat → Value → Prop} (h : ∀ j, j < n → ∃ v, p j v) : ∃ f : Nat → Value, ∀ j, j < n → p j (f j) :=
  ⟨fun j => if hj : j < n then (h j hj).choose else undef, fun j hj => by simp only [hj, dif_pos]; exact (h j hj).choose_spec⟩

theorem hget_spec {β : Nat} {x : Blk} (hx : hget h β = some x) : h[β]? = some (some x) := by
  unfold hget at hx
  cases hh : h[β]? with
  | none => rw [hh] at hx; cases hx
  | some y => rw [hh] at hx; simp at hx; rw [hx]

/-- A live block, cell by cell. -/
theorem SR.live (H : SR w0 E h w) {β : Nat} {cs : List V} {ty : Option TypeId} (hx : hget h β = some (.cells cs ty)) : ∃ l, E.mu β = some l ∧ BR w0.heap.size E w l (.cells cs ty) := H.blk β _ (hget_spec hx)

theorem BR.row {B : Nat} {l : Loc} {cs l' : List V} {ty : Option TypeId} {o n : Nat} (hb : BR B E w l (.cells cs ty)) (hs : sub cs o n = some l') : ∃ vs, Row E w l.b (l.base + o) l' vs := by
  obtain ⟨hle, hln, hget⟩ := sub_spec hs
  obtain ⟨_, _, _, _, h4⟩ := hb
  obtain ⟨f, hf⟩ := exists_vals (n := n) (p := fun j v => w.cell? ⟨l.b, l.base + (o + j), none⟩ = some v ∧ (∀ x, cs[o + j]? = some x → VR E x v) ∧ v.oneCell' = true) (fun j hj => by
    obtain ⟨_, v, h1, h2, h3⟩ := h4 (o + j) (by omega)
    exact ⟨v, h1, fun x hx => by rw [List.getElem?_eq_getElem (by omega)] at hx; cases hx; exact h2, h3⟩)
  obtain ⟨vs, hl, hv⟩ := exists_list n f
  refine ⟨vs, by rw [hl, hln], fun j u hu => ?_⟩
  obtain ⟨rfl, hj⟩ := hv j u hu
  obtain ⟨h1, h2, h3⟩ := hf j hj
  exact ⟨by rw [← h1]; congr 2; omega, h3, fun x hx => h2 x (by rw [← hget j hj]; exact hx)⟩

theorem fp_row (H : SR w0 E h w) {cs l : List V} {o n : Nat} {v : Value} (hv : VR E (.fp cs o) v) (hs : sub cs o n = some l) : ∃ b p vs, v = .pointer (some ⟨b, p, none⟩) ∧ Row E w b p l vs := by
  obtain ⟨hle, hln, hget⟩ := sub_spec hs
  cases hv with
  | fp _ _ b p vals h1 h2 h3 =>
    obtain ⟨vs, hl, hv⟩ := exists_list n (fun j => vals (o + j))
    refine ⟨b, p + o, vs, rfl, by rw [hl, hln], fun j u hu => ?_⟩
    obtain ⟨rfl, hj⟩ := hv j u hu
    refine ⟨by rw [← H.frz b (p + (o + j)) _ (h1 (o + j) (by omega))]; congr 2; omega, h3 _ (by omega), fun x hx => ?_⟩
    rw [hget j hj, List.getElem?_eq_getElem (by omega)] at hx
    cases hx
    exact h2 _ _

/-- What a pointer that is told leads to. -/
theorem rd_row (H : SR w0 E h w) {a : V} {v : Value} {n : Nat} {l : List V} (hv : VR E a v) (hr : rd h a n = some l) : ∃ b p vs, v = .pointer (some ⟨b, p, none⟩) ∧ Row E w b p l vs ∧ l.length = n := by
  cases a with
  | ptr β o =>
    simp only [rd] at hr
    split at hr
    · rename_i cs hg
      obtain ⟨lc, hm, hb⟩ := H.live hg
      obtain ⟨vs, hrow⟩ := hb.row hr
      cases hv with
      | ptr _ _ a hn ha =>
        rw [ha lc hm]
        exact ⟨_, _, vs, rfl, hrow, (sub_spec hr).2.1⟩
    · cases hr
  | fp cs o =>
    simp only [rd] at hr
    obtain ⟨b, p, vs, h1, h2⟩ := fp_row H hv hr
    exact ⟨b, p, vs, h1, h2, (sub_spec hr).2.1⟩
  | _ => simp [rd] at hr

theorem Row.loads {b p : Nat} {l : List V} {vs : List Value} (hr : Row E w b p l vs) : (loadCells ⟨b, p, none⟩ l.length).run P w = .ok vs.toArray w := by
  rw [← hr.1]
  exact run_loadCells_list w ⟨b, p, none⟩ vs (fun j v hv => by rw [Addr.add_none]; exact (hr.2 j v hv).1)

theorem Row.agg {b p : Nat} {l : List V} {vs : List Value} (hr : Row E w b p l vs) : VR E (.agg l) (.agg vs.toArray) :=
  .agg l _ (by simpa using hr.1) (fun j x v hx hv => (hr.2 j v (by simpa using hv)).2.2 x hx) (fun j v hv => (hr.2 j v (by simpa using hv)).2.1)

theorem asV_spec {ag : Bool} {l : List V} {x : V} (h : asV ag l = some x) : (ag = true ∧ x = .agg l) ∨ (ag = false ∧ l = [x]) := by
  cases ag with
  | true => simp [asV] at h; exact .inl ⟨rfl, h.symm⟩
  | false =>
    match l, h with
    | [y], h => simp [asV] at h; subst h; exact .inr ⟨rfl, rfl⟩
    | [], h => simp [asV] at h
    | _ :: _ :: _, h => simp [asV] at h

/-! ### stores -/
theorem setAll_length (cs : List V) (o : Nat) (xs : List V) : (setAll cs o xs).length = cs.length := by
  induction xs generalizing cs o with
  | nil => rfl
  | cons x r ih => simp [setAll, ih]

theorem setAll_out (cs : List V) (o : Nat) (xs : List V) (j : Nat) (hj : j < o ∨ o + xs.length ≤ j) : (setAll cs o xs)[j]? = cs[j]? := by
  induction xs generalizing cs o with
  | nil => rfl
  | cons x r ih =>
    simp only [setAll]
    rw [ih _ _ (by simp at hj; omega), List.getElem?_set_ne (by simp at hj; omega)]

theorem setAll_in (cs : List V) (o : Nat) (xs : List V) (j : Nat) (hj : j < xs.length) (hle : o + xs.length ≤ cs.length) : (setAll cs o xs)[o + j]? = xs[j]? := by
  induction xs generalizing cs o j with
  | nil => simp at hj
  | cons x r ih =>
    simp only [setAll]
    cases j with
    | zero =>
      rw [setAll_out _ _ _ _ (by omega)]
      rw [List.length_cons] at hle
      rw [Nat.add_zero, List.getElem?_set_self (by omega)]; rfl
    | succ j =>
      have := ih (cs.set o x) (o + 1) j (by simpa using hj) (by simp at hle ⊢; omega)
      rw [show o + (j + 1) = o + 1 + j by omega, this]; simp

/-- The list of a told row's values, one by one, all of one cell. -/
def Vals (E : Env) (l : List V) (vs : List Value) : Prop := vs.length = l.length ∧ ∀ (j : Nat) u, vs[j]? = some u → u.oneCell' = true ∧ ∀ x, l[j]? = some x → VR E x u

theorem Row.vals {b p : Nat} {l : List V} {vs : List Value} (hr : Row E w b p l vs) : Vals E l vs := ⟨hr.1, fun j u hu => (hr.2 j u hu).2⟩
theorem Vals.mono {E' : Env} (hE : Le E E') {l : List V} {vs : List Value} (hv : Vals E l vs) : Vals E' l vs :=
  ⟨hv.1, fun j u hu => ⟨(hv.2 j u hu).1, fun x hx => ((hv.2 j u hu).2 x hx).mono hE⟩⟩

theorem heap_setCells (b : Nat) : ∀ (vs : List Value) (o : Nat) (w : World) (k : Nat), k ≠ b → (w.setCells b o vs).heap[k]? = w.heap[k]?
  | [], _, _, _, _ => rfl
  | v :: r, o, w, k, hk => by rw [World.setCells, heap_setCells b r _ _ k hk, Below.heap_setCell _ _ _ _ hk]
theorem size_setCells (b : Nat) : ∀ (vs : List Value) (o : Nat) (w : World), (w.setCells b o vs).heap.size = w.heap.size
  | [], _, _ => rfl
  | v :: r, o, w => by rw [World.setCells, size_setCells b r]; simp
theorem below_setCells (b B : Nat) (hB : B ≤ b) : ∀ (vs : List Value) (o : Nat) (w : World), Below B w (w.setCells b o vs)
  | [], _, _ => Below.refl _ _
  | v :: r, o, w => ((Below.refl B w).setCell (p := ⟨b, o, none⟩) hB v).trans (below_setCells b B hB r (o + 1) _)

theorem wr_spec {β o : Nat} {xs : List V} {h' : Hp} (hw : wr h β o xs = some h') : ∃ cs ty, hget h β = some (.cells cs ty) ∧ o + xs.length ≤ cs.length ∧ h' = h.set β (some (.cells (setAll cs o xs) ty)) := by
  unfold wr at hw
  split at hw
  · rename_i cs ty hg
    split at hw
    · rename_i hle; cases hw; exact ⟨cs, ty, hg, hle, rfl⟩
    · cases hw
  · cases hw

theorem shape_setCells (b : Nat) : ∀ (vs : List Value) (o : Nat) (w : World) (c : Nat), (w.setCells b o vs).shape? c = w.shape? c
  | [], _, _, _ => rfl
  | v :: r, o, w, c => by
    rw [World.setCells, shape_setCells b r]
    unfold World.shape? World.setCell
    simp only [Array.getElem?_modify]
    by_cases hbc : b = c
    · subst hbc
      simp only [if_true]
      cases w.heap[b]? with
      | none => rfl
      | some x => cases x <;> simp
    · simp only [hbc, if_false]

/-- Cells of a block of the call's own are written. -/
theorem SR.write (H : SR w0 E h w) {β o : Nat} {xs : List V} {h' : Hp} {vs : List Value} (hw : wr h β o xs = some h') (hv : Vals E xs vs) :
    ∃ l, E.mu β = some l ∧ SR w0 E h' (w.setCells l.b (l.base + o) vs) ∧ (storeCells ⟨l.b, l.base + o, none⟩ vs).run P w = .ok () (w.setCells l.b (l.base + o) vs) := by
  obtain ⟨cs, ty, hg, hle, rfl⟩ := wr_spec hw
  obtain ⟨l, hm, hb⟩ := H.live hg
  obtain ⟨hT, hB, hlt, hown, hcs⟩ := hb
  have hcell : ∀ j, j < vs.length → l.own l.b (l.base + o + j) := fun j hj => by
    have := (hcs (o + j) (by rw [hv.1] at hj; omega)).1
    rwa [show l.base + (o + j) = l.base + o + j by omega] at this
  have hsome : ∀ j, j < vs.length → (w.cell? ⟨l.b, l.base + o + j, none⟩).isSome = true := fun j hj => (hown _ _ (hcell j hj)).2.1
  refine ⟨l, hm, ?_, ?_⟩
  · have hout : ∀ b p, ¬ (b = l.b ∧ l.base + o ≤ p ∧ p < l.base + o + vs.length) → (w.setCells l.b (l.base + o) vs).cell? ⟨b, p, none⟩ = w.cell? ⟨b, p, none⟩ := fun b p hn => by
      refine World.cell?_setCells_out _ _ _ _ _ (fun h1 _ => ?_)
      simp only at h1 ⊢
      rcases Nat.lt_or_ge p (l.base + o) with h2 | h2
      · exact .inl h2
      · rcases Nat.lt_or_ge p (l.base + o + vs.length) with h3 | h3
        · exact absurd ⟨h1, h2, h3⟩ hn
        · exact .inr h3
    have hin : ∀ b p, (b = l.b ∧ l.base + o ≤ p ∧ p < l.base + o + vs.length) → l.own b p := fun b p ⟨h1, h2, h3⟩ => by
      have := hcell (p - (l.base + o)) (by omega)
      rwa [show l.base + o + (p - (l.base + o)) = p by omega, ← h1] at this
    have hβ : β < h.length := by have := H.mu_lt hm; rw [H.len]; exact this
    refine ⟨by simp [H.len], H.below.trans (below_setCells _ _ hB _ _ _), fun b p v hf => ?_, fun γ y hy => ?_, fun γ l' hm' => ?_, H.dis, H.dfr, fun b p ho => ⟨by rw [size_setCells]; exact (H.old b p ho).1, (H.old b p ho).2⟩, fun b p ho => ⟨by rw [heap_setCells _ _ _ _ _ (fun e => (H.hid b p ho).2.2 β l hm e.symm)]; exact (H.hid b p ho).1, (H.hid b p ho).2⟩⟩
    · rw [hout b p (fun hc => ?_)]
      · exact H.frz b p v hf
      · have := H.dfr β l b p hm (hin b p hc)
        rw [hf] at this; cases this
    · by_cases hγ : β = γ
      · subst hγ
        rw [List.getElem?_set_self hβ] at hy
        cases hy
        refine ⟨l, hm, hT.mono fun s hs => by rw [shape_setCells]; exact hs, hB, by rw [size_setCells]; exact hlt, fun b p ho => ?_, fun j hj => ?_⟩
        · obtain ⟨rfl, h1, h2⟩ := hown b p ho
          refine ⟨rfl, ?_, by rw [World.frozen?_setCells]; exact h2⟩
          by_cases hc : l.base + o ≤ p ∧ p < l.base + o + vs.length
          · have := World.cell?_setCells_in l.b vs (l.base + o) w hsome (p - (l.base + o)) (by omega)
            rw [show l.base + o + (p - (l.base + o)) = p by omega] at this
            rw [this]; rfl
          · rw [hout l.b p (fun ⟨_, h3, h4⟩ => hc ⟨h3, h4⟩)]; exact h1
        · rw [setAll_length] at hj
          refine ⟨(hcs j hj).1, ?_⟩
          by_cases hc : o ≤ j ∧ j < o + xs.length
          · have hjv : j - o < vs.length := by rw [hv.1]; omega
            have h1 := World.cell?_setCells_in l.b vs (l.base + o) w hsome (j - o) hjv
            rw [show l.base + o + (j - o) = l.base + j by omega] at h1
            have h2 := hv.2 (j - o) vs[j - o] (List.getElem?_eq_getElem hjv)
            refine ⟨_, h1, h2.2 _ ?_, h2.1⟩
            have h3 := setAll_in cs o xs (j - o) (by omega) hle
            rw [show o + (j - o) = j by omega] at h3
            rw [← h3, List.getElem?_eq_getElem]
          · obtain ⟨_, v, h1, h2, h3⟩ := hcs j hj
            refine ⟨v, by rw [hout _ _ (fun ⟨_, h4, h5⟩ => hc ⟨by omega, by rw [hv.1] at h5; omega⟩)]; exact h1, ?_, h3⟩
            have h4 := setAll_out cs o xs j (by omega)
            rw [List.getElem?_eq_getElem (by rw [setAll_length]; exact hj), List.getElem?_eq_getElem hj] at h4
            rw [Option.some.inj h4]; exact h2
      · rw [List.getElem?_set_ne hγ] at hy
        obtain ⟨l', hm', hb'⟩ := H.blk γ y hy
        refine ⟨l', hm', ?_⟩
        cases y with
        | cells cs' ty' =>
          obtain ⟨g0, g1, g2, g3, g4⟩ := hb'
          have hno : ∀ b p, l'.own b p → ¬ (b = l.b ∧ l.base + o ≤ p ∧ p < l.base + o + vs.length) := fun b p ho hc => hγ (H.dis β γ l l' b p hm hm' (hin b p hc) ho)
          refine ⟨g0.mono fun s hs => by rw [shape_setCells]; exact hs, g1, by rw [size_setCells]; exact g2, fun b p ho => ?_, fun j hj => ?_⟩
          · obtain ⟨e, h1, h2⟩ := g3 b p ho
            exact ⟨e, by rw [hout b p (hno b p ho)]; exact h1, by rw [World.frozen?_setCells]; exact h2⟩
          · obtain ⟨h1, v, h2, h3, h4⟩ := g4 j hj
            exact ⟨h1, v, by rw [hout _ _ (hno _ _ h1)]; exact h2, h3, h4⟩
        | map es =>
          obtain ⟨g1, g0, g2, ms, clock, g3, g4⟩ := hb'
          refine ⟨g1, g0, g2, ms, clock, ?_, g4⟩
          cases vs with
          | nil => exact g3
          | cons v0 r0 =>
            rw [heap_setCells _ _ _ _ _ (fun e => ?_)]
            · exact g3
            · rw [e] at g3
              have h2 := hsome 0 (by simp)
              unfold World.cell? at h2
              rw [g3] at h2
              simp at h2
    · by_cases hγ : β = γ
      · subst hγ; exact ⟨_, List.getElem?_set_self hβ⟩
      · rw [List.getElem?_set_ne hγ]; exact H.non γ l' hm'
  · have := run_storeCells_cells (P := P) l.b (l.base + o) vs 0 w (by simpa using hsome) (by simpa using fun j hj => (hown _ _ (hcell j hj)).2.2) (fun v hv' => by
      obtain ⟨j, hj, rfl⟩ := List.getElem_of_mem hv'
      exact (hv.2 j _ (List.getElem?_eq_getElem hj)).1)
    simpa using this
end
end Go.Vs
namespace Go.Vs
open Go.RowKit

theorem VR.one {E : Env} {x : V} {v : Value} (h : VR E x v) : v.oneCell' = x.one := by cases h <;> rfl

theorem VR.cells {E : Env} {x : V} {v : Value} (h : VR E x v) : v.cells.size = x.cells.length ∧ ∀ (j : Nat) c u, x.cells[j]? = some c → v.cells[j]? = some u → VR E c u := by
  cases h with
  | agg cs vs hl h h1 => exact ⟨hl, h⟩
  | _ =>
    refine ⟨rfl, fun j c u hc hu => ?_⟩
    cases j with
    | zero => simp [V.cells] at hc; simp [Value.cells] at hu; subst hc; subst hu; constructor <;> assumption
    | succ j => simp [V.cells] at hc

/-- A value whose cells are of one cell each, cell by cell. -/
theorem VR.vals {E : Env} {x : V} {v : Value} (h : VR E x v) (h1 : ∀ c ∈ x.cells, c.one = true) : Vals E x.cells v.cells.toList := by
  obtain ⟨hs, hc⟩ := h.cells
  refine ⟨by simpa using hs, fun j u hu => ?_⟩
  have hu' : v.cells[j]? = some u := by simpa using hu
  have hj : j < x.cells.length := by
    rw [← hs]
    rcases Nat.lt_or_ge j v.cells.size with h' | h'
    · exact h'
    · rw [Array.getElem?_eq_none h'] at hu'; cases hu'
  have hx := hc j _ u (List.getElem?_eq_getElem hj) hu'
  exact ⟨by rw [hx.one]; exact h1 _ (List.getElem_mem hj), fun y hy => hc j y u hy hu'⟩

section
variable {w0 w w' : World} {E : Env} {h : Hp} {P : Program}

/-- The world has one block more, of cells, none of which is frozen. -/
structure Made (w w' : World) (c : Array Value) : Prop where
  below : Below w.heap.size w w'
  size : w.heap.size < w'.heap.size
  cell : ∀ o, w'.cell? ⟨w.heap.size, o, none⟩ = c[o]?
  free : ∀ o, o < c.size → w'.frozen? ⟨w.heap.size, o, none⟩ = false

theorem Made.alloc (w : World) (c : Array Value) (t : TypeId) : Made w (w.alloc (.cells c t)) c :=
  ⟨(Below.refl _ _).alloc (Nat.le_refl _) _, by simp, fun o => by simp, fun o _ => by simp⟩

def newLoc (w : World) (n : Nat) : Loc := ⟨w.heap.size, 0, fun b o => b = w.heap.size ∧ o < n⟩

theorem SR.newCellsT (H : SR w0 E h w) {c : Array Value} (hm : Made w w' c) {l : List V} {vs : List Value} {ty : Option TypeId} (hty : TyR w' (newLoc w c.size) ty) (hv : Vals E l vs) (hc : ∀ (j : Nat) u, vs[j]? = some u → c[j]? = some u) :
    SR w0 (E.add (newLoc w c.size)) (h ++ [some (.cells l ty)]) w' := by
  refine H.new (newLoc w c.size) (.cells l ty) hm.below rfl ⟨hty, H.below.size, hm.size, fun b o ⟨h1, h2⟩ => ⟨h1, ?_, ?_⟩, fun j hj => ?_⟩
  · rw [h1, hm.cell, Array.getElem?_eq_getElem h2]; rfl
  · rw [h1]; exact hm.free o h2
  · have hjv : j < vs.length := by rw [hv.1]; exact hj
    have h1 := hc j _ (List.getElem?_eq_getElem hjv)
    have h2 := hv.2 j _ (List.getElem?_eq_getElem hjv)
    have h3 : j < c.size := by
      rcases Nat.lt_or_ge j c.size with h' | h'
      · exact h'
      · rw [Array.getElem?_eq_none h'] at h1; cases h1
    exact ⟨⟨rfl, by simpa [newLoc] using h3⟩, vs[j], by simp only [newLoc, Nat.zero_add]; rw [hm.cell]; exact h1, (h2.2 _ (List.getElem?_eq_getElem hj)).mono (Le.add E _), h2.1⟩

theorem SR.newCells (H : SR w0 E h w) {c : Array Value} (hm : Made w w' c) {l : List V} {vs : List Value} (hv : Vals E l vs) (hc : ∀ (j : Nat) u, vs[j]? = some u → c[j]? = some u) :
    SR w0 (E.add (newLoc w c.size)) (h ++ [some (.cells l)]) w' := H.newCellsT hm TyR.none hv hc

theorem TyR.alloc (w : World) (c : Array Value) (t : TypeId) {ty : Option TypeId} (h : ∀ T, ty = some T → T = t) : TyR (w.alloc (.cells c t)) (newLoc w c.size) ty := fun T hT => by
  rw [h T hT]
  exact ⟨rfl, c.size, by simp only [newLoc, World.shape?, heap_alloc_new], fun o ho => ⟨rfl, ho⟩⟩

theorem VR.newPtr (H : SR w0 E h w) (n : Nat) : VR (E.add (newLoc w n)) (.ptr h.length 0) (.pointer (some ⟨w.heap.size, 0, none⟩)) :=
  .ptr _ _ _ (by rw [H.len]; simp [Env.add]) fun l hl => by
    simp only [Env.add, H.len, if_pos] at hl
    cases hl; rfl

theorem VR.newSl (H : SR w0 E h w) (len cap' cap n : Nat) (ex : Bool) (es : Nat) (ag : Bool) (hl : len ≤ cap) (hc : cap ≤ cap') (hex : ex = true → cap' = cap) (hn : cap' * es ≤ n) :
    VR (E.add (newLoc w n)) (.sl h.length 0 len cap ex es ag) (.slice (some ⟨w.heap.size, 0, none⟩) len cap') :=
  .sl _ _ _ _ _ _ _ _ _ (by rw [H.len]; simp [Env.add]) hl hc hex fun l hl => by
    simp only [Env.add, H.len, if_pos] at hl
    cases hl
    exact ⟨.inr rfl, fun j hj => ⟨rfl, by simp only [newLoc]; omega⟩⟩

/-! ### frozen at once -/
def Env.ice (E : Env) (b : Nat) (c : Array Value) : Env := { E with frz := fun b' o => if b' = b then c[o]? else E.frz b' o }

theorem Le.ice (H : SR w0 E h w) (c : Array Value) : Le E (E.ice w.heap.size c) :=
  ⟨Nat.le_refl _, fun _ _ _ hm => hm, fun b o v hf => by
    have := H.frz_lt hf
    simp only [Env.ice]; rw [if_neg (by omega)]; exact hf, rfl, rfl⟩

theorem SR.newFrz (H : SR w0 E h w) {c : Array Value} (hm : Made w w' c) : SR w0 (E.ice w.heap.size c) h w' := by
  have hold := H.of_blocks hm.below
  have hle := Le.ice H c
  refine ⟨hold.len, hold.below, fun b o v hf => ?_, fun β x hx => ?_, hold.non, hold.dis, fun β l b o hl ho => ?_, fun b o ho => ⟨(hold.old b o ho).1, ?_, (H.old b o ho).2.2⟩, fun b o ho => ⟨(hold.hid b o ho).1, fun p => ?_, (H.hid b o ho).2.2⟩⟩
  · simp only [Env.ice] at hf
    split at hf
    · rename_i hb; rw [hb, hm.cell]; exact hf
    · exact hold.frz b o v hf
  · obtain ⟨l, hl, hr⟩ := hold.blk β x hx
    exact ⟨l, hl, hr.mono hle (Nat.le_refl _) rfl⟩
  · simp only [Env.ice]
    obtain ⟨x, hx⟩ := H.non β l hl
    obtain ⟨l2, hl2, hr⟩ := H.blk β x hx
    have hl' : E.mu β = some l := hl
    rw [hl'] at hl2; cases hl2
    have h1 := hr.own b o ho
    have h2 := hr.lt
    rw [if_neg (by omega)]
    exact H.dfr β l b o hl ho
  · have := (H.old b o ho).1
    simp only [Env.ice]
    rw [if_neg (by omega)]
    exact (H.old b o ho).2.1
  · have := H.hid_lt ho
    simp only [Env.ice]
    rw [if_neg (by omega)]
    exact (H.hid b o ho).2.1 p

/-! ### a block is frozen -/
open Classical in
noncomputable def Env.freeze (E : Env) (w : World) (β : Nat) (l : Loc) : Env :=
  { E.kill β with frz := fun b o => if l.own b o then w.cell? ⟨b, o, none⟩ else E.frz b o }

theorem Le.freeze (H : SR w0 E h w) (β : Nat) (l : Loc) : Le E (E.freeze w β l) :=
  ⟨Nat.le_refl _, (Le.kill E β).mu, fun b o v hf => by
    simp only [Env.freeze]
    split
    · exact H.frz b o v hf
    · exact hf, rfl, rfl⟩

theorem SR.freeze (H : SR w0 E h w) {β : Nat} {l : Loc} (hm : E.mu β = some l) : SR w0 (E.freeze w β l) (h.set β none) w := by
  have hk := H.kill β
  refine ⟨hk.len, hk.below, fun b o v hf => ?_, fun γ x hx => ?_, hk.non, hk.dis, fun γ l' b o hl ho => ?_, fun b o ho => ⟨(hk.old b o ho).1, ?_, (hk.old b o ho).2.2⟩, fun b o ho => ⟨(hk.hid b o ho).1, fun p => ?_, (hk.hid b o ho).2.2⟩⟩
  · simp only [Env.freeze] at hf
    split at hf
    · exact hf
    · exact H.frz b o v hf
  · obtain ⟨l', hl', hr⟩ := hk.blk γ x hx
    have hE : Le (E.kill β) (E.freeze w β l) := ⟨Nat.le_refl _, fun _ _ _ h => h, fun b o v hf => ?_, rfl, rfl⟩
    · exact ⟨l', hl', hr.mono hE (Nat.le_refl _) rfl⟩
    simp only [Env.freeze]
    split
    · exact H.frz b o v hf
    · exact hf
  · simp only [Env.freeze]
    have hl2 : E.mu γ = some l' := by
      simp only [Env.freeze, Env.kill] at hl
      split at hl
      · cases hl
      · exact hl
    have hne : γ ≠ β := by
      intro e
      simp only [Env.freeze, Env.kill, e, if_pos] at hl
      cases hl
    rw [if_neg (fun ho' => hne (H.dis γ β l' l b o hl2 hm ho ho'))]
    exact H.dfr γ l' b o hl2 ho
  · simp only [Env.freeze]
    rw [if_neg ((H.old b o ho).2.2 β l hm)]
    exact (H.old b o ho).2.1
  · simp only [Env.freeze]
    obtain ⟨x, hx⟩ := H.non β l hm
    obtain ⟨l2, hl2, hr⟩ := H.blk β x hx
    rw [hm] at hl2; cases hl2
    rw [if_neg fun h => (H.hid b o ho).2.2 β l hm (hr.own _ _ h).symm]
    exact (H.hid b o ho).2.1 p

theorem chunk_spec (es : Nat) (ag : Bool) : ∀ (n : Nat) (l : List V), l.length = n * es → (ag = false → es = 1) → (∀ x ∈ l, x.one = true) →
    (chunk es ag n l).length = n ∧ flat (chunk es ag n l) = l ∧ ∀ x ∈ chunk es ag n l, x.cells.length = es
  | 0, l, hl, _, _ => by
    have : l = [] := List.eq_nil_of_length_eq_zero (by omega)
    subst this
    simp [chunk, flat]
  | n + 1, l, hl, hag, h1 => by
    have hl' : l.length = n * es + es := by rw [hl, Nat.succ_mul]
    obtain ⟨i1, i2, i3⟩ := chunk_spec es ag n (l.drop es) (by rw [List.length_drop]; omega) hag (fun x hx => h1 x (List.mem_of_mem_drop hx))
    cases ag with
    | true =>
      refine ⟨by simp [chunk, i1], ?_, fun x hx => ?_⟩
      · simp only [flat] at i2
        simp [chunk, flat, V.cells, i2]
      · simp only [chunk, if_true, List.mem_cons] at hx
        rcases hx with rfl | hx
        · simp [V.cells]; omega
        · exact i3 x hx
    | false =>
      have he := hag rfl
      subst he
      match l, hl', i1, i2, i3, h1 with
      | y :: r, hl', i1, i2, i3, h1 =>
        have hy : y.cells = [y] := by
          have := h1 y (by simp)
          cases y <;> first | rfl | simp [V.one] at this
        refine ⟨by simpa [chunk] using i1, ?_, fun x hx => ?_⟩
        · simp only [flat] at i2
          simpa [chunk, flat, hy] using i2
        · simp only [chunk, Bool.false_eq_true, if_false, List.headD_cons, List.mem_cons] at hx
          rcases hx with rfl | hx
          · rw [hy]; rfl
          · exact i3 x hx

/-- A told row, frozen: a slice over it. -/
theorem VR.lst_of {E : Env} {es : Nat} {ag ex : Bool} {n : Nat} {l : List V} {vs : List Value} {b p cap : Nat} (hl : l.length = n * es) (hag : ag = false → es = 1) (hv : Vals E l vs)
    (hf : ∀ (j : Nat) u, vs[j]? = some u → E.frz b (p + j) = some u) (hc : n ≤ cap) (hex : ex = true → cap = n) (a : Addr) (ha : n ≠ 0 → a = ⟨b, p, none⟩) : VR E (.lst ex (chunk es ag n l)) (.slice (some a) n cap) := by
  have hone : ∀ x ∈ l, x.one = true := fun x hx => by
    obtain ⟨j, hj, rfl⟩ := List.getElem_of_mem hx
    have hjv : j < vs.length := by rw [hv.1]; exact hj
    have := hv.2 j _ (List.getElem?_eq_getElem hjv)
    rw [← (this.2 _ (List.getElem?_eq_getElem hj)).one]; exact this.1
  obtain ⟨c1, c2, c3⟩ := chunk_spec es ag n l hl hag hone
  have hget : ∀ j, j < (flat (chunk es ag n l)).length → ∃ hj : j < vs.length, True := fun j hj => ⟨by rw [c2] at hj; rw [hv.1]; exact hj, trivial⟩
  have := VR.lst (E := E) ex (chunk es ag n l) es a b p cap (fun j => vs.getD j undef) (by rw [c1]; exact hc) (fun e => by rw [c1]; exact hex e) c3
    (fun hne => ha (fun e => hne (List.eq_nil_of_length_eq_zero (by rw [c1, e]))))
    (fun j hj => by obtain ⟨hjv, _⟩ := hget j hj; rw [hf j vs[j] (List.getElem?_eq_getElem hjv)]; simp [List.getD, List.getElem?_eq_getElem hjv])
    (fun j hj => by
      obtain ⟨hjv, _⟩ := hget j hj
      have h1 := (hv.2 j vs[j] (List.getElem?_eq_getElem hjv)).2 (flat (chunk es ag n l))[j] (by rw [← List.getElem?_eq_getElem hj]; simp [c2])
      simpa [List.getD, List.getElem?_eq_getElem hjv] using h1)
    (fun j hj => by
      obtain ⟨hjv, _⟩ := hget j hj
      have h1 := (hv.2 j vs[j] (List.getElem?_eq_getElem hjv)).1
      simpa [List.getD, List.getElem?_eq_getElem hjv] using h1)
  rwa [c1] at this
end
end Go.Vs
namespace Go.Vs
open Go.RowKit

def tZero (P : Program) (t : TypeId) : Option Value := (P.info? t).bind (·.zero)
def tSize (P : Program) (t : TypeId) : Option Nat := (P.info? t).map (·.size)
def tAg (P : Program) (t : TypeId) : Option Bool := (P.underlying t).map fun
  | .struct _ => true
  | .array _ _ => true
  | _ => false

/-- A constant of one cell. -/
def ckV1 : Value → V → Bool
  | .bool a, .bool b => a == b
  | .int j a, .int k b => j == k && a == b
  | .string s, .str l => s.data.toList == l
  | .pointer none, .nptr => true
  | .slice none 0 0, .nsl => true
  | .map none, .nmap => true
  | .nilFunc, .nfn => true
  | .nilIface, .nifc => true
  | _, _ => false

def ckVs : List Value → List V → Bool
  | [], [] => true
  | v :: r, x :: s => ckV1 v x && ckVs r s
  | _, _ => false

def ckV (v : Value) (x : V) : Bool := match v, x with
  | .agg vs, .agg xs => ckVs vs.toList xs
  | v, x => ckV1 v x

def ckO : Operand → O → Bool
  | .tmp a, .t b => a == b
  | .const v, .k x => ckV v x
  | .func f, .k (.fn (.func g) [] []) => f == g
  | .global g, .g h => g == h
  | _, _ => false

def ckOs : List Operand → List O → Bool
  | [], [] => true
  | a :: r, b :: s => ckO a b && ckOs r s
  | _, _ => false

theorem ckV1_spec {E : Env} {v : Value} {x : V} (h : ckV1 v x = true) : VR E x v ∧ v.oneCell' = true := by
  unfold ckV1 at h
  split at h
  · simp at h; subst h; exact ⟨.bool _, rfl⟩
  · simp at h; obtain ⟨rfl, rfl⟩ := h; exact ⟨.int _ _, rfl⟩
  · rename_i s l
    simp at h
    subst h
    have := VR.str (E := E) s.data.toList
    simp only [Array.toArray_toList] at this
    exact ⟨this, rfl⟩
  · exact ⟨.nptr, rfl⟩
  · exact ⟨.nsl, rfl⟩
  · exact ⟨.nmap, rfl⟩
  · exact ⟨.nfn, rfl⟩
  · exact ⟨.nifc, rfl⟩
  · cases h

theorem ckVs_spec {E : Env} : ∀ {vs : List Value} {xs : List V}, ckVs vs xs = true → Vals E xs vs
  | [], [], _ => ⟨rfl, fun j u hu => by simp at hu⟩
  | v :: r, x :: s, h => by
    simp only [ckVs, Bool.and_eq_true] at h
    obtain ⟨h1, h2⟩ := ckVs_spec (E := E) h.2
    obtain ⟨hx, ho⟩ := ckV1_spec (E := E) h.1
    refine ⟨by simp [h1], fun j u hu => ?_⟩
    cases j with
    | zero => simp at hu; subst hu; exact ⟨ho, fun y hy => by simp at hy; subst hy; exact hx⟩
    | succ j => exact ⟨(h2 j u (by simpa using hu)).1, fun y hy => (h2 j u (by simpa using hu)).2 y (by simpa using hy)⟩
  | [], _ :: _, h => by simp [ckVs] at h
  | _ :: _, [], h => by simp [ckVs] at h

theorem Vals.agg {E : Env} {l : List V} {vs : List Value} (hv : Vals E l vs) : VR E (.agg l) (.agg vs.toArray) :=
  .agg l _ (by simpa using hv.1) (fun j x v hx hu => (hv.2 j v (by simpa using hu)).2 x hx) (fun j v hu => (hv.2 j v (by simpa using hu)).1)

theorem ckV_spec {E : Env} {v : Value} {x : V} (h : ckV v x = true) : VR E x v := by
  unfold ckV at h
  split at h
  · have := (ckVs_spec (E := E) h).agg; simpa using this
  · exact (ckV1_spec h).1

theorem ckO_spec {x : X} {E : Env} {t : Nat → V} {a : Act} (hg : GR x E) (ht : ∀ n, VR E (t n) (a.tmps.getD n undef)) {p : Operand} {o : O} (h : ckO p o = true) : VR E (o.ev x t) (a.eval p) := by
  unfold ckO at h
  split at h
  · simp at h; subst h; exact ht _
  · exact ckV_spec h
  · simp at h; subst h; exact .fn _ [] [] #[] #[] rfl rfl (fun j x v hx => by simp at hx) (fun j x v hx => by simp at hx)
  · simp at h; subst h; exact hg _
  · cases h

theorem ckOs_spec {x : X} {E : Env} {t : Nat → V} {a : Act} (hg : GR x E) (ht : ∀ n, VR E (t n) (a.tmps.getD n undef)) : ∀ {ps : List Operand} {os : List O}, ckOs ps os = true →
    (ps.map a.eval).length = (evs x t os).length ∧ ∀ (j : Nat) y v, (evs x t os)[j]? = some y → (ps.map a.eval)[j]? = some v → VR E y v
  | [], [], _ => ⟨rfl, fun j y v hy => by simp [evs] at hy⟩
  | p :: r, o :: s, h => by
    simp only [ckOs, Bool.and_eq_true] at h
    obtain ⟨h1, h2⟩ := ckOs_spec hg ht h.2
    have h0 := ckO_spec hg ht h.1
    refine ⟨by simpa [evs] using h1, fun j y v hy hv => ?_⟩
    cases j with
    | zero => simp [evs] at hy hv; subst hy; subst hv; exact h0
    | succ j => exact h2 j y v (by simpa [evs] using hy) (by simpa using hv)
  | [], _ :: _, h => by simp [ckOs] at h
  | _ :: _, [], h => by simp [ckOs] at h

section
variable {w0 w : World} {E : Env} {h : Hp} {x : X}

theorem run_zero {P : Program} {t : TypeId} {z : Value} (hz : tZero P t = some z) (w : World) : (zeroValue t).run P w = .ok z w := by
  unfold tZero at hz
  cases hi : P.info? t with
  | none => rw [hi] at hz; cases hz
  | some i =>
    rw [hi] at hz
    simp only [Option.bind_some] at hz
    simp [zeroValue, typeInfo, hi, hz]
theorem run_size {P : Program} {t : TypeId} {n : Nat} (hn : tSize P t = some n) (w : World) : (sizeOf t).run P w = .ok n w := by
  unfold tSize at hn
  cases hi : P.info? t with
  | none => rw [hi] at hn; cases hn
  | some i => rw [hi] at hn; simp at hn; simp [sizeOf, typeInfo, hi, hn]
theorem run_isAgg {P : Program} {t : TypeId} {b : Bool} (hb : tAg P t = some b) (w : World) : (isAgg t).run P w = .ok b w := by
  unfold tAg at hb
  cases hi : P.underlying t with
  | none => rw [hi] at hb; cases hb
  | some i => rw [hi] at hb; simp at hb; subst hb; simp only [isAgg, Sem.run_bind, run_underlying hi, Result.andThen_ok]; cases i <;> rfl

/-- What an instruction's machine run has to come to. -/
def Does (x : X) (w0 : World) (E : Env) (w : World) (r : Result Next) : Option Rz → Prop
  | none => True
  | some (.val v h') => ∃ u E' w', Le E E' ∧ r = .ok (.value u) w' ∧ VR E' v u ∧ SR w0 E' h' w'
  | some (.skip h') => ∃ E' w', Le E E' ∧ r = .ok .skip w' ∧ SR w0 E' h' w'
  | some (.call f args) => callable x.P f = true → ∃ vs, r = .ok (.enter f vs) w ∧ VRs E args vs
  | some (.dfr f args) => ∃ d cap, r = .ok (.defer d) w ∧ d.target = .fn (.func f) cap ∧ VRs E args (d.args ++ cap)
  | some (.pan v) => ∃ u, r = .halt (.panic u) w ∧ VR E v u

theorem Does.same {r : Result Next} {v : V} {u : Value} (H : SR w0 E h w) (hr : r = .ok (.value u) w) (hv : VR E v u) : Does x w0 E w r (some (.val v h)) :=
  ⟨u, E, w, Le.refl E, hr, hv, H⟩

theorem does_new {t : TypeId} {z : Value} {zs : List V} {ty : Option TypeId} (H : SR w0 E h w) (hz : tZero x.P t = some z) (hc : ckVs z.cells.toList zs = true) (hty : ∀ T, ty = some T → T = t) :
    Does x w0 E w ((do pure (.value (← Instr.alloc t true (.tuple #[]))) : Sem Next).run x.P w) (some (.val (.ptr h.length 0) (h ++ [some (.cells zs ty)]))) := by
  refine ⟨.pointer (some ⟨w.heap.size, 0, none⟩), E.add (newLoc w z.cells.size), w.alloc (.cells z.cells t), Le.add _ _, ?_, VR.newPtr H _, ?_⟩
  · simp [Instr.alloc, run_zero hz, newVar, newRow]
  · exact H.newCellsT (Made.alloc w z.cells t) (TyR.alloc w _ _ hty) (ckVs_spec hc) (fun j u hu => by simpa using hu)

theorem does_box {t : TypeId} {a : V} {u : Value} {ty : Option TypeId} (hty : ∀ T, ty = some T → T = t) (H : SR w0 E h w) (hv : VR E a u) (h1 : ∀ c ∈ a.cells, c.one = true) :
    Does x w0 E w ((do pure (.value (← Instr.box t u)) : Sem Next).run x.P w) (some (.val (.ptr h.length 0) (h ++ [some (.cells a.cells ty)]))) := by
  refine ⟨.pointer (some ⟨w.heap.size, 0, none⟩), E.add (newLoc w u.cells.size), w.alloc (.cells u.cells t), Le.add _ _, ?_, VR.newPtr H _, ?_⟩
  · simp [Instr.box, newVar, newRow]
  · exact H.newCellsT (Made.alloc w u.cells t) (TyR.alloc w _ _ hty) (hv.vals h1) (fun j u hu => by simpa using hu)

theorem does_load {t : TypeId} {n : Nat} {ag : Bool} {a v : V} {u : Value} {l : List V} (H : SR w0 E h w) (hs : tSize x.P t = some n) (ha : tAg x.P t = some ag) (hu : VR E a u) (hr : rd h a n = some l) (hv : asV ag l = some v) :
    Does x w0 E w ((do pure (.value (← Instr.loadAt t u)) : Sem Next).run x.P w) (some (.val v h)) := by
  obtain ⟨b, p, vs, rfl, hrow, hln⟩ := rd_row H hu hr
  rcases asV_spec hv with ⟨rfl, rfl⟩ | ⟨rfl, rfl⟩
  · have hl := hrow.loads (P := x.P)
    rw [hln] at hl
    exact Does.same H (by simp [Instr.loadAt, Instr.sureAddr, loadVar, run_isAgg ha, run_size hs, hl]) hrow.agg
  · have h1 : 0 < vs.length := by rw [hrow.1]; simp
    have h0 := hrow.2 0 vs[0] (List.getElem?_eq_getElem h1)
    refine Does.same (u := vs[0]) H ?_ (h0.2.2 v rfl)
    have hc := h0.1
    simp only [Nat.add_zero] at hc
    simp [Instr.loadAt, Instr.sureAddr, loadVar, run_isAgg ha, hc]

theorem does_store {t : TypeId} {n β o : Nat} {v : V} {pu u : Value} {h' : Hp} (H : SR w0 E h w) (hs : tSize x.P t = some n) (hp : VR E (.ptr β o) pu) (hu : VR E v u) (hn : v.cells.length = n)
    (h1 : ∀ c ∈ v.cells, c.one = true) (hw : wr h β o v.cells = some h') :
    Does x w0 E w ((do Instr.storeAt t pu u; pure Next.skip : Sem Next).run x.P w) (some (.skip h')) := by
  obtain ⟨l, hm, hsr, hrun⟩ := H.write (P := x.P) hw (hu.vals h1)
  cases hp with
  | ptr _ _ a hn' ha =>
    rw [ha l hm]
    refine ⟨E, _, Le.refl _, ?_, hsr⟩
    have hsz : u.cells.size = n := by rw [← hn]; exact hu.cells.1
    simp [Instr.storeAt, Instr.sureAddr, storeVar, run_size hs, hsz, hrun]
end
end Go.Vs
namespace Go.Vs
open Go.RowKit

section
variable {w0 w : World} {E : Env} {h : Hp} {x : X}

theorem vals_setAll {cs xs : List V} {us vs : List Value} {o : Nat} (hc : Vals E cs us) (hx : Vals E xs vs) (hle : o + xs.length ≤ cs.length) :
    Vals E (setAll cs o xs) (vs.zipIdx.foldl (fun (a : List Value) (c : Value × Nat) => a.set (o + c.2) c.1) us) := by
  have key : ∀ (vs : List Value) (k : Nat) (us : List Value), (vs.zipIdx k).foldl (fun (a : List Value) (c : Value × Nat) => a.set (o + c.2) c.1) us = us.mapIdx fun j u => if o + k ≤ j ∧ j < o + k + vs.length then vs.getD (j - (o + k)) undef else u := by
    intro vs
    induction vs with
    | nil =>
      intro k us
      refine List.ext_getElem? fun j => ?_
      simp only [List.zipIdx_nil, List.foldl_nil, List.getElem?_mapIdx, List.length_nil, Nat.add_zero]
      rw [show (fun u => if o + k ≤ j ∧ j < o + k then List.getD [] (j - (o + k)) undef else u) = id from funext fun u => if_neg (by omega)]
      simp
    | cons v r ih =>
      intro k us
      simp only [List.zipIdx_cons, List.foldl_cons, ih]
      refine List.ext_getElem? fun j => ?_
      simp only [List.getElem?_mapIdx, List.getElem?_set, List.length_cons]
      by_cases h1 : o + k = j
      · subst h1
        by_cases h2 : o + k < us.length
        · simp only [h2, if_true, List.getElem?_eq_getElem, Option.map_some, Nat.le_refl, true_and, Nat.sub_self]
          rw [if_neg (by omega), if_pos (by omega)]
          simp
        · simp [h2]
      · simp only [if_neg h1]
        congr 1
        funext u
        by_cases h2 : o + (k + 1) ≤ j ∧ j < o + (k + 1) + r.length
        · rw [if_pos h2, if_pos (by omega)]
          rw [show j - (o + k) = (j - (o + (k + 1))) + 1 by omega]
          simp
        · rw [if_neg h2]
          by_cases h3 : o + k ≤ j ∧ j < o + k + (r.length + 1)
          · omega
          · rw [if_neg h3]
  rw [key vs 0 us]
  refine ⟨by simp [setAll_length, hc.1], fun j u hu => ?_⟩
  simp only [List.getElem?_mapIdx] at hu
  cases hj : us[j]? with
  | none => rw [hj] at hu; simp at hu
  | some u0 =>
    rw [hj] at hu
    simp only [Option.map_some, Option.some.injEq, Nat.add_zero] at hu
    by_cases hin : o ≤ j ∧ j < o + vs.length
    · rw [if_pos hin] at hu
      have hjv : j - o < vs.length := by omega
      have hu' : vs[j - o]? = some u := by rw [← hu]; simp [List.getD, List.getElem?_eq_getElem hjv]
      have := hx.2 (j - o) u hu'
      refine ⟨this.1, fun y hy => this.2 y ?_⟩
      have h3 := setAll_in cs o xs (j - o) (by rw [← hx.1]; exact hjv) hle
      rw [show o + (j - o) = j by omega, hy] at h3
      exact h3.symm
    · rw [if_neg hin] at hu
      subst hu
      have := hc.2 j u0 hj
      refine ⟨this.1, fun y hy => this.2 y ?_⟩
      rw [setAll_out cs o xs j (by rw [← hx.1]; omega)] at hy
      exact hy

/-- 'fill' of the machine and 'fillV'. -/
theorem fill_spec {place : Nat → Option (Nat × Nat)} : ∀ {ps : List (Nat × Value)} {qs : List (Nat × Nat × V)} {cs zs : List V} {us : Array Value}, ps.length = qs.length →
    (∀ (j : Nat) p q, ps[j]? = some p → qs[j]? = some q → place p.1 = some (q.1, q.2.1) ∧ VR E q.2.2 p.2) → Vals E cs us.toList → fillV cs qs = some zs →
    ∃ ws : Array Value, Instr.fill place us ps = some ws ∧ Vals E zs ws.toList
  | [], [], cs, zs, us, _, _, hc, hf => by
    simp [fillV] at hf; subst hf
    exact ⟨us, rfl, hc⟩
  | p :: r, q :: s, cs, zs, us, hl, hp, hc, hf => by
    simp only [fillV] at hf
    split at hf
    · rename_i hq
      obtain ⟨h1, h2⟩ := hp 0 p q rfl rfl
      have hv := h2.vals hq.2.2
      have hsz : p.2.cells.size = q.2.1 := by rw [h2.cells.1]; exact hq.1
      have hus : us.size = cs.length := by simpa using hc.1
      have hset := vals_setAll hc hv (by rw [hq.1]; exact hq.2.1)
      have hfold : ∀ (l : List (Value × Nat)) (us : Array Value), (l.foldl (fun cs (c : Value × Nat) => cs.setIfInBounds (q.1 + c.2) c.1) us).toList = l.foldl (fun (a : List Value) (c : Value × Nat) => a.set (q.1 + c.2) c.1) us.toList := by
        intro l
        induction l with
        | nil => intro us; rfl
        | cons y l ih => intro us; simp only [List.foldl_cons, ih, Array.toList_setIfInBounds]
      have hnext : Vals E (setAll cs q.1 q.2.2.cells) (p.2.cells.zipIdx.foldl (fun cs (c : Value × Nat) => cs.setIfInBounds (q.1 + c.2) c.1) us).toList := by
        rw [← Array.foldl_toList, hfold]
        simpa using hset
      obtain ⟨ws, hws, hvs⟩ := fill_spec (place := place) (by simpa using hl) (fun j p' q' hp' hq' => hp (j + 1) p' q' (by simpa using hp') (by simpa using hq')) hnext hf
      refine ⟨ws, ?_, hvs⟩
      obtain ⟨p1, p2⟩ := p
      simp only at h1 hsz
      simp only [Instr.fill, h1]
      rw [if_neg (by
        simp only [hsz, ne_eq, not_true_eq_false, decide_false, Bool.false_or, decide_eq_true_eq]
        have hq21 := hq.2.1
        have e1 : q.snd.fst = q.2.1 := rfl
        rw [← hus] at hq21
        exact Nat.not_lt.2 hq21)]
      exact hws
    · cases hf
  | [], _ :: _, _, _, _, hl, _, _, _ => by simp at hl
  | _ :: _, [], _, _, _, hl, _, _, _ => by simp at hl

/-- The places of a struct's fields. -/
def places (P : Program) : List Field → Option (List (Nat × Nat))
  | [] => some []
  | f :: r => match tSize P f.type, places P r with
    | some n, some l => some ((f.offset, n) :: l)
    | _, _ => none

theorem run_placesV {P : Program} (w : World) : ∀ {fs : List Field} {l : List (Nat × Nat)}, places P fs = some l →
    (fs.mapM fun (f : Field) => (do pure (f.offset, ← sizeOf f.type) : Sem (Nat × Nat))).run P w = .ok l w
  | [], l, h => by simp [places] at h; subst h; simp
  | f :: r, l, h => by
    simp only [places] at h
    split at h
    · rename_i n m hn hm
      cases h
      simp only [List.mapM_cons, Sem.run_bind, run_size hn, Result.andThen_ok, Sem.run_pure, run_placesV w hm]
    · cases h

theorem does_build_struct {t : TypeId} {z : Value} {fs : Array Field} {l : List (Nat × Nat)} {zs cs : List V} {ps : List (Nat × Value)} {qs : List (Nat × Nat × V)} (H : SR w0 E h w)
    (hz : tZero x.P t = some z) (hu : x.P.underlying t = some (.struct fs)) (hp : places x.P fs.toList = some l) (hc : ckVs z.cells.toList zs = true) (hl : ps.length = qs.length)
    (hq : ∀ (j : Nat) p q, ps[j]? = some p → qs[j]? = some q → l[p.1]? = some (q.1, q.2.1) ∧ VR E q.2.2 p.2) (hf : fillV zs qs = some cs) :
    Does x w0 E w ((do pure (.value (← Instr.build t ps.toArray)) : Sem Next).run x.P w) (some (.val (.agg cs) h)) := by
  obtain ⟨ws, h1, h2⟩ := fill_spec (place := fun i => l.toArray[i]?) hl (fun j p q hp hq' => by simpa using hq j p q hp hq') (ckVs_spec hc) hf
  refine Does.same (u := .agg ws) H ?_ (by simpa using h2.agg)
  have h1' : Instr.fill (fun i => l[i]?) z.cells ps = some ws := by simpa using h1
  have hm := run_placesV (P := x.P) w hp
  simp only [Instr.build, Sem.run_bind, run_zero hz, Result.andThen_ok, run_underlying hu, Array.mapM_eq_mapM_toList, Sem.run_map, hm]
  simp [h1']

theorem does_build_array {t e : TypeId} {z : Value} {k n : Nat} {zs cs : List V} {ps : List (Nat × Value)} {qs : List (Nat × Nat × V)} (H : SR w0 E h w)
    (hz : tZero x.P t = some z) (hu : x.P.underlying t = some (.array k e)) (hs : tSize x.P e = some n) (hc : ckVs z.cells.toList zs = true) (hl : ps.length = qs.length)
    (hq : ∀ (j : Nat) p q, ps[j]? = some p → qs[j]? = some q → (q.1 = p.1 * n ∧ q.2.1 = n) ∧ VR E q.2.2 p.2) (hf : fillV zs qs = some cs) :
    Does x w0 E w ((do pure (.value (← Instr.build t ps.toArray)) : Sem Next).run x.P w) (some (.val (.agg cs) h)) := by
  obtain ⟨ws, h1, h2⟩ := fill_spec (place := fun i => some (i * n, n)) hl (fun j p q hp hq' => ⟨by rw [(hq j p q hp hq').1.1, (hq j p q hp hq').1.2], (hq j p q hp hq').2⟩) (ckVs_spec hc) hf
  refine Does.same (u := .agg ws) H ?_ (by simpa using h2.agg)
  simp only [Instr.build, Sem.run_bind, run_zero hz, Result.andThen_ok, run_underlying hu, run_size hs]
  simp [h1]

theorem does_mks {t e : TypeId} {z : Value} {es n : Nat} {ag fz : Bool} {zs cs : List V} {ps : List (Nat × Value)} {qs : List (Nat × Nat × V)} (H : SR w0 E h w)
    (hz : n * es = 0 ∨ tZero x.P e = some z) (hu : x.P.underlying t = some (.slice e)) (hs : tSize x.P e = some es) (hag : ag = false → es = 1) (hlim : n * es ≤ 2 ^ 24)
    (hc : Vals E zs (if n * es = 0 then [] else ((List.range (n * es)).map fun i => z.cells.toList.getD (i % z.cells.size) default))) (hl : ps.length = qs.length)
    (hq : ∀ (j : Nat) p q, ps[j]? = some p → qs[j]? = some q → (q.1 = p.1 * es ∧ q.2.1 = es) ∧ VR E q.2.2 p.2) (hf : fillV zs qs = some cs) (hcl : cs.length = n * es) :
    Does x w0 E w ((do pure (.value (← Instr.buildSlice t n ps.toArray)) : Sem Next).run x.P w)
      (some (if fz then .val (.lst true (chunk es ag n cs)) h else .val (.sl h.length 0 n n true es ag) (h ++ [some (.cells cs)]))) := by
  have hbase : ∃ us : Array Value, us.toList = (if n * es = 0 then [] else ((List.range (n * es)).map fun i => z.cells.toList.getD (i % z.cells.size) default)) ∧
      (do let zero ← (if n * es = 0 then pure #[] else do pure (← zeroValue e).cells : Sem (Array Value)); pure ((Array.range (n * es)).map (zero[· % zero.size]!)) : Sem (Array Value)).run x.P w = .ok us w := by
    by_cases h0 : n * es = 0
    · exact ⟨#[], by simp [h0], by simp [h0]⟩
    · refine ⟨(Array.range (n * es)).map (fun i => z.cells[i % z.cells.size]!), ?_, ?_⟩
      · simp [h0]
        intro i _
        rw [getElem!_def]
        cases z.cells[i % z.cells.size]? <;> rfl
      · rcases hz with hz | hz
        · exact absurd hz h0
        · simp [h0, run_zero hz]
  obtain ⟨us, hus, hrun⟩ := hbase
  rw [← hus] at hc
  obtain ⟨ws, h1, h2⟩ := fill_spec (place := fun i => some (i * es, es)) hl (fun j p q hp hq' => ⟨by rw [(hq j p q hp hq').1.1, (hq j p q hp hq').1.2], (hq j p q hp hq').2⟩) hc hf
  have hr : ((do pure (.value (← Instr.buildSlice t n ps.toArray)) : Sem Next)).run x.P w = .ok (.value (.slice (some ⟨w.heap.size, 0, none⟩) n n)) (w.alloc (.cells ws e)) := by
    by_cases h0 : n * es = 0
    · simp only [h0, if_true] at hrun
      simp only [Instr.buildSlice, Sem.run_bind, run_underlying hu, run_size hs, Result.andThen_ok, h0, if_true]
      have : us = #[] := by simpa [h0] using hus
      subst this
      have e0 : (Array.map (fun (_ : Nat) => (default : Value)) (Array.range 0)) = #[] := by simp
      simp [e0, h1, newRow]
    · rcases hz with hz | hz
      · exact absurd hz h0
      simp only [h0, if_false] at hrun
      simp only [Sem.run_bind, run_zero hz, Result.andThen_ok, Sem.run_pure, Result.ok.injEq, and_true] at hrun
      simp only [Instr.buildSlice, Sem.run_bind, run_underlying hu, run_size hs, Result.andThen_ok, h0, if_false, Sem.run_ite]
      rw [if_neg (by omega)]
      simp [run_zero hz, hrun, h1, newRow]
  rw [hr]
  have hws : ws.size = n * es := by have := h2.1; simp at this; omega
  cases fz with
  | true =>
    refine ⟨_, E.ice w.heap.size ws, _, Le.ice H ws, rfl, ?_, H.newFrz (Made.alloc w ws e)⟩
    exact VR.lst_of (b := w.heap.size) (p := 0) hcl hag (h2.mono (Le.ice H ws)) (fun j u hu => by simpa [Env.ice] using hu) (Nat.le_refl _) (fun _ => rfl) _ (fun _ => rfl)
  | false =>
    refine ⟨_, E.add (newLoc w ws.size), _, Le.add _ _, rfl, VR.newSl H n n n ws.size true es ag (Nat.le_refl _) (Nat.le_refl _) (fun _ => rfl) (by omega), ?_⟩
    exact H.newCells (Made.alloc w ws e) h2 (fun j u hu => by simpa using hu)
theorem does_mkt {t e : TypeId} {z : Value} {es n : Nat} {T : TypeId} {zs cs : List V} {ps : List (Nat × Value)} {qs : List (Nat × Nat × V)} (H : SR w0 E h w)
    (hz : n * es = 0 ∨ tZero x.P e = some z) (hu : x.P.underlying t = some (.slice e)) (hs : tSize x.P e = some es) (hT : T = e) (hlim : n * es ≤ 2 ^ 24)
    (hc : Vals E zs (if n * es = 0 then [] else ((List.range (n * es)).map fun i => z.cells.toList.getD (i % z.cells.size) default))) (hl : ps.length = qs.length)
    (hq : ∀ (j : Nat) p q, ps[j]? = some p → qs[j]? = some q → (q.1 = p.1 * es ∧ q.2.1 = es) ∧ VR E q.2.2 p.2) (hf : fillV zs qs = some cs) (hcl : cs.length = n * es) :
    Does x w0 E w ((do pure (.value (← Instr.buildSlice t n ps.toArray)) : Sem Next).run x.P w)
      (some (.val (.sl h.length 0 n n true es false) (h ++ [some (.cells cs (some T))]))) := by
  have hbase : ∃ us : Array Value, us.toList = (if n * es = 0 then [] else ((List.range (n * es)).map fun i => z.cells.toList.getD (i % z.cells.size) default)) ∧
      (do let zero ← (if n * es = 0 then pure #[] else do pure (← zeroValue e).cells : Sem (Array Value)); pure ((Array.range (n * es)).map (zero[· % zero.size]!)) : Sem (Array Value)).run x.P w = .ok us w := by
    by_cases h0 : n * es = 0
    · exact ⟨#[], by simp [h0], by simp [h0]⟩
    · refine ⟨(Array.range (n * es)).map (fun i => z.cells[i % z.cells.size]!), ?_, ?_⟩
      · simp [h0]
        intro i _
        rw [getElem!_def]
        cases z.cells[i % z.cells.size]? <;> rfl
      · rcases hz with hz | hz
        · exact absurd hz h0
        · simp [h0, run_zero hz]
  obtain ⟨us, hus, hrun⟩ := hbase
  rw [← hus] at hc
  obtain ⟨ws, h1, h2⟩ := fill_spec (place := fun i => some (i * es, es)) hl (fun j p q hp hq' => ⟨by rw [(hq j p q hp hq').1.1, (hq j p q hp hq').1.2], (hq j p q hp hq').2⟩) hc hf
  have hr : ((do pure (.value (← Instr.buildSlice t n ps.toArray)) : Sem Next)).run x.P w = .ok (.value (.slice (some ⟨w.heap.size, 0, none⟩) n n)) (w.alloc (.cells ws e)) := by
    by_cases h0 : n * es = 0
    · simp only [h0, if_true] at hrun
      simp only [Instr.buildSlice, Sem.run_bind, run_underlying hu, run_size hs, Result.andThen_ok, h0, if_true]
      have : us = #[] := by simpa [h0] using hus
      subst this
      have e0 : (Array.map (fun (_ : Nat) => (default : Value)) (Array.range 0)) = #[] := by simp
      simp [e0, h1, newRow]
    · rcases hz with hz | hz
      · exact absurd hz h0
      simp only [h0, if_false] at hrun
      simp only [Sem.run_bind, run_zero hz, Result.andThen_ok, Sem.run_pure, Result.ok.injEq, and_true] at hrun
      simp only [Instr.buildSlice, Sem.run_bind, run_underlying hu, run_size hs, Result.andThen_ok, h0, if_false, Sem.run_ite]
      rw [if_neg (by omega)]
      simp [run_zero hz, hrun, h1, newRow]
  rw [hr]
  have hws : ws.size = n * es := by have := h2.1; simp at this; omega
  refine ⟨_, E.add (newLoc w ws.size), _, Le.add _ _, rfl, VR.newSl H n n n ws.size true es false (Nat.le_refl _) (Nat.le_refl _) (fun _ => rfl) (by omega), ?_⟩
  exact H.newCellsT (Made.alloc w ws e) (TyR.alloc _ _ _ fun T' hT' => by cases hT'; exact hT) h2 (fun j u hu => by simpa using hu)
end
end Go.Vs
namespace Go.Vs
open Go.RowKit
set_option linter.unusedSimpArgs false
set_option linter.unusedVariables false

section
variable {w0 w : World} {E : Env} {h : Hp} {x : X}

theorem run_int {P : Program} {op : BinOp} {t : TypeId} {k k' : IntKind} {a b : Int} {v : V} {w : World} (hv : binV op .num (.int k a) (.int k' b) = some v) :
    ∃ u, (binOp op t (.int k a) (.int k' b)).run P w = .ok u w ∧ ∀ E, VR E v u := by
  cases op
  case shl | shr =>
    simp only [binV] at hv
    split at hv
    · rename_i hb
      cases hv
      refine ⟨.int k _, ?_, fun E => .int _ _⟩
      simp only [binOp, Op.shift]
      rw [if_neg (by omega)]
      rfl
    · cases hv
  all_goals
    simp only [binV] at hv
    split at hv
    · rename_i hk
      subst hk
      simp only [intBin] at hv
      first
        | (split at hv
           · cases hv
           · rename_i hb
             cases hv
             refine ⟨_, ?_, fun E => .int _ _⟩
             simp only [binOp, ne_eq, not_true_eq_false, if_false, Op.intDiv, hb]
             rfl)
        | (cases hv
           first
             | (refine ⟨_, ?_, fun E => .int _ _⟩
                simp only [binOp, ne_eq, not_true_eq_false, if_false, Op.intArith, Op.intBits, Op.intCmp]
                rfl)
             | (refine ⟨_, ?_, fun E => .bool _⟩
                simp only [binOp, ne_eq, not_true_eq_false, if_false, Op.intArith, Op.intBits, Op.intCmp]
                rfl))
    · cases hv

theorem run_str {P : Program} {op : BinOp} {t : TypeId} {a b : List UInt8} {v : V} {w : World} (hv : strBin op a b = some v) :
    ∃ u, (binOp op t (.string ⟨a.toArray⟩) (.string ⟨b.toArray⟩)).run P w = .ok u w ∧ ∀ E, VR E v u := by
  cases op
  case add =>
    simp only [strBin] at hv
    split at hv
    · rename_i hb
      cases hv
      refine ⟨.string ⟨(a ++ b).toArray⟩, ?_, fun E => .str _⟩
      have h1 : (⟨a.toArray⟩ : ByteArray).size = a.length := rfl
      have h2 : (⟨b.toArray⟩ : ByteArray).size = b.length := rfl
      simp only [binOp, Op.stringOp, h1, h2]
      rw [if_neg (by unfold room at hb; have : IntKind.i64.max = 9223372036854775807 := by decide
                     rw [this]; omega)]
      have : (⟨a.toArray⟩ ++ ⟨b.toArray⟩ : ByteArray) = ⟨(a ++ b).toArray⟩ := by
        rw [← Lib.mk_data (⟨a.toArray⟩ ++ ⟨b.toArray⟩)]; simp [ByteArray.data_append]
      rw [this]; rfl
    · cases hv
  all_goals
    simp only [strBin] at hv
    first
      | (cases hv; done)
      | (cases hv
         refine ⟨_, ?_, fun E => .bool _⟩
         simp only [binOp, Op.stringOp, ByteArray.toList_mk]
         rfl)

theorem run_uni {P : Program} {op : UnOp} {a v : V} {u : Value} {E : Env} {w : World} (hu : VR E a u) (hv : unV op a = some v) :
    ∃ r, (Op.unary op u).run P w = .ok r w ∧ VR E v r := by
  unfold unV at hv
  split at hv
  · cases hv; cases hu; exact ⟨_, rfl, .bool _⟩
  · cases hv; cases hu; exact ⟨_, rfl, .int _ _⟩
  · cases hv; cases hu; exact ⟨_, rfl, .int _ _⟩
  · cases hv

/-- A type's kind, as comparisons want it. -/
def qOf (d : TypeDesc) : Option Q := match d with
  | .bool => some .bool
  | .int _ => some .num
  | .string => some .str
  | .pointer _ => some .ptr
  | .slice _ => some .slc
  | .map _ _ => some .map
  | .func _ _ _ => some .fn
  | .interface _ => some .ifc
  | _ => none

def ckQ (P : Program) (t : TypeId) (q : Q) : Bool := match P.underlying t with
  | some d => qOf d == some q
  | none => false

theorem ckQ_spec {P : Program} {t : TypeId} {q : Q} (h : ckQ P t q = true) : ∃ d, P.underlying t = some d ∧ qOf d = some q := by
  unfold ckQ at h
  split at h
  · rename_i d hd; exact ⟨d, hd, by simpa using h⟩
  · cases h

theorem run_equalIn1 {P : Program} {t : TypeId} {q : Q} {a b : V} {ua ub : Value} {r : Bool} {w : World} {E : Env} {d : Nat} (ht : ckQ P t q = true) (ha : VR E a ua) (hb : VR E b ub) (hv : veq q a b = some r) :
    (Op.equalIn (d + 1) t ua ub).run P w = .ok r w := by
  obtain ⟨td, hu, hq⟩ := ckQ_spec ht
  rw [Op.equalIn]
  simp only [Sem.run_bind, run_underlying hu, Result.andThen_ok]
  unfold veq at hv
  split at hv
  · split at hv
    · rename_i hk
      cases ha; cases hb; cases hv
      cases td <;> simp [qOf] at hq
      simp [hk]
    · cases hv
  all_goals first
    | (cases ha; cases hb; cases hv; cases td <;> simp [qOf] at hq; simp; done)
    | (cases ha; cases hb; cases hv; cases td <;> simp [qOf] at hq; simp [beq_toListBytes]; done)
    | (cases td <;> simp [qOf] at hq; done)
    | (cases hv; done)

theorem run_equal1 {P : Program} {t : TypeId} {q : Q} {a b : V} {ua ub : Value} {r : Bool} {w : World} {E : Env} (ht : ckQ P t q = true) (ha : VR E a ua) (hb : VR E b ub) (hv : veq q a b = some r) :
    (Op.equal t ua ub).run P w = .ok r w := run_equalIn1 (d := 9999) ht ha hb hv
end
end Go.Vs
namespace Go.Vs
open Go.RowKit

def eqFs (P : Program) (g : TypeId → Option (List Q1)) : List Field → Nat → Option (List Q1)
  | [], _ => some []
  | f :: r, off => if f.name ≠ "_" ∧ f.offset = off then match g f.type with
    | some ks => (eqFs P g r (off + ks.length)).map (ks ++ ·)
    | none => none
    else none

def q1Of : TypeDesc → Option Q1
  | .bool => some .bool
  | .int _ => some .num
  | .string => some .str
  | _ => none

/-- The kinds of a type's cells, where its '==' is that of its cells. -/
def eqSz (P : Program) : Nat → TypeId → Option (List Q1)
  | 0, _ => none
  | k + 1, t => match P.underlying t with
    | some (.struct fs) => if P.stoodInHeld t = true then none else match eqFs P (eqSz P k) fs.toList 0 with
      | some ks => if tSize P t = some ks.length then some ks else none
      | none => none
    | some (.array m e) => match eqSz P k e with
      | some ks => if tSize P t = some (m * ks.length) then some (List.replicate m ks).flatten else none
      | none => none
    | some d => match q1Of d with
      | some q => if tSize P t = some 1 then some [q] else none
      | none => none
    | none => none

theorem eqSz_size {P : Program} {k : Nat} {t : TypeId} {ks : List Q1} (h : eqSz P k t = some ks) : tSize P t = some ks.length := by
  cases k with
  | zero => cases h
  | succ k =>
    simp only [eqSz] at h
    split at h
    · split at h
      · cases h
      · split at h
        · split at h
          · cases h; assumption
          · cases h
        · cases h
    · split at h
      · split at h
        · rename_i hs; cases h; rw [hs]; simp
        · cases h
      · cases h
    · split at h
      · split at h
        · rename_i hs; cases h; rw [hs]; rfl
        · cases h
      · cases h
    · cases h

/-- A value as a cell row shows it. -/
def Shown (P : Program) (t : TypeId) (v : Value) : Prop := (tAg P t = some true → ∃ cs, v = .agg cs) ∧ (tAg P t = some false → v.cells = #[v])

theorem veqs_append : ∀ {ks js : List Q1} {a b c d : List V} {r : Bool}, ks.length = a.length → a.length = c.length → veqs (ks ++ js) (a ++ b) (c ++ d) = some r →
    ∃ p q, veqs ks a c = some p ∧ veqs js b d = some q ∧ r = (p && q)
  | [], _, [], b, [], d, r, _, _, h => ⟨true, r, rfl, h, by simp⟩
  | k :: ks, js, x :: a, b, y :: c, d, r, hk, hl, h => by
    simp only [List.cons_append, veqs] at h
    split at h
    · rename_i p q h1 h2
      cases h
      obtain ⟨p', q', e1, e2, e3⟩ := veqs_append (by simpa using hk) (by simpa using hl) h2
      exact ⟨p && p', q', by simp [veqs, h1, e1], e2, by rw [e3, Bool.and_assoc]⟩
    · cases h
  | [], _, _ :: _, _, _, _, _, hk, _, _ => by simp at hk
  | _ :: _, _, [], _, _, _, _, hk, _, _ => by simp at hk
  | _, _, [], _, _ :: _, _, _, _, hl, _ => by simp at hl
  | _, _, _ :: _, _, [], _, _, _, hl, _ => by simp at hl

theorem Vals.slice {E : Env} {l : List V} {vs : List Value} (hv : Vals E l vs) (o n : Nat) : Vals E ((l.drop o).take n) ((vs.drop o).take n) := by
  refine ⟨by simp [hv.1], fun j u hu => ?_⟩
  have hj : j < n := by
    rcases Nat.lt_or_ge j n with h | h
    · exact h
    · rw [List.getElem?_eq_none (by simp; omega)] at hu; cases hu
  rw [List.getElem?_take_of_lt hj, List.getElem?_drop] at hu
  refine ⟨(hv.2 _ u hu).1, fun x hx => (hv.2 _ u hu).2 x ?_⟩
  rwa [List.getElem?_take_of_lt hj, List.getElem?_drop] at hx

def isAg : TypeDesc → Bool
  | .struct _ => true
  | .array _ _ => true
  | _ => false
theorem tAg_of {P : Program} {t : TypeId} {d : TypeDesc} (h : P.underlying t = some d) : tAg P t = some (isAg d) := by
  simp only [tAg, h, Option.map_some]; cases d <;> rfl

/-- A part of a row. -/
theorem run_part {P : Program} {t : TypeId} {n off : Nat} {xs : Array Value} {l : List V} {E : Env} (w : World) (hs : tSize P t = some n) (hag : ∃ b, tAg P t = some b ∧ (b = false → n = 1)) (hx : Vals E l xs.toList)
    (hle : off + n ≤ l.length) : ∃ v, (part t xs off).run P w = .ok v w ∧ Shown P t v ∧ v.cells.toList = (xs.toList.drop off).take n := by
  obtain ⟨b, hb, hn⟩ := hag
  have hsz : xs.size = l.length := by simpa using hx.1
  cases b with
  | true =>
    refine ⟨.agg (xs.extract off (off + n)), ?_, ⟨fun _ => ⟨_, rfl⟩, fun h => ?_⟩, ?_⟩
    · simp [part, run_isAgg hb, run_size hs]
    · rw [hb] at h; cases h
    · simp [Value.cells, Array.toList_extract, List.extract]
  | false =>
    have h1 := hn rfl
    subst h1
    have hlt : off < xs.size := by omega
    have ho := hx.2 off xs[off] (by simp [hlt])
    have hc : xs[off].cells = #[xs[off]] := by
      have := ho.1
      generalize xs[off] = u at this
      cases u <;> first | rfl | simp [Value.oneCell'] at this
    refine ⟨xs[off], ?_, ⟨fun h => ?_, fun _ => hc⟩, ?_⟩
    · simp [part, run_isAgg hb, hlt]
    · rw [hb] at h; cases h
    · rw [hc]
      refine List.ext_getElem? fun j => ?_
      cases j with
      | zero => simp [List.getElem?_take_of_lt, hlt]
      | succ j => rw [List.getElem?_eq_none (by simp), List.getElem?_eq_none (by simp; omega)]

/-- What 'eqSz' promises at one type. -/
def EqOk (P : Program) (E : Env) (w : World) (k : Nat) (t : TypeId) (ks : List Q1) : Prop :=
  (∃ b, tAg P t = some b ∧ (b = false → ks.length = 1)) ∧ ∀ (d : Nat), k ≤ d → ∀ (a b : Value) (l m : List V) (r : Bool),
    Shown P t a → Shown P t b → Vals E l a.cells.toList → Vals E m b.cells.toList → l.length = ks.length → m.length = ks.length → veqs ks l m = some r → (Op.equalIn d t a b).run P w = .ok r w

theorem eqFs_spec {P : Program} {E : Env} {w : World} {k : Nat} (ih : ∀ t ks, eqSz P k t = some ks → EqOk P E w k t ks) {d : Nat} (hd : k ≤ d) : ∀ (fs : List Field) (off : Nat) (ks : List Q1), eqFs P (eqSz P k) fs off = some ks →
    ∀ (xs ys : Array Value) (l m : List V) (r : Bool), Vals E l xs.toList → Vals E m ys.toList → l.length = off + ks.length → m.length = off + ks.length → veqs ks (l.drop off) (m.drop off) = some r →
    (Op.eqFields d xs ys fs).run P w = .ok r w := by
  intro fs
  induction fs with
  | nil =>
    intro off ks hk xs ys l m r hx hy hl hm hv
    simp only [eqFs] at hk
    cases hk
    rw [List.drop_of_length_le (by simp at hl; omega), List.drop_of_length_le (by simp at hm; omega)] at hv
    cases hv
    rfl
  | cons f fs ihf =>
    intro off ks hk xs ys l m r hx hy hl hm hv
    simp only [eqFs] at hk
    split at hk
    · rename_i hn
      split at hk
      · rename_i js hj
        cases hr : eqFs P (eqSz P k) fs (off + js.length) with
        | none => rw [hr] at hk; cases hk
        | some rs =>
          rw [hr] at hk
          simp only [Option.map_some, Option.some.injEq] at hk
          subst hk
          rw [List.length_append] at hl hm
          obtain ⟨hag, hq⟩ := ih _ _ hj
          obtain ⟨a, ra, sa, ca⟩ := run_part (off := f.offset) w (eqSz_size hj) hag hx (by rw [hn.2]; omega)
          obtain ⟨b, rb, sb, cb⟩ := run_part (off := f.offset) w (eqSz_size hj) hag hy (by rw [hn.2]; omega)
          rw [hn.2] at ca cb
          have el : l.drop off = (l.drop off).take js.length ++ l.drop (off + js.length) := by rw [← List.drop_drop, List.take_append_drop]
          have em : m.drop off = (m.drop off).take js.length ++ m.drop (off + js.length) := by rw [← List.drop_drop, List.take_append_drop]
          rw [el, em] at hv
          obtain ⟨p, q, e1, e2, e3⟩ := veqs_append (by simp; omega) (by simp; omega) hv
          have h1 := hq d hd a b _ _ p sa sb (by rw [ca]; exact hx.slice _ _) (by rw [cb]; exact hy.slice _ _) (by simp; omega) (by simp; omega) e1
          have h2 := ihf (off + js.length) rs hr xs ys l m q hx hy (by omega) (by omega) e2
          rw [Op.eqFields, if_pos hn.1]
          simp only [Sem.run_bind, ra, rb, h1, Result.andThen_ok, Sem.run_ite]
          cases p with
          | false => simp [e3]
          | true => simp [h2, e3]
      · cases hk
    · cases hk

theorem eq_spec {P : Program} {E : Env} (w : World) : ∀ (k : Nat) (t : TypeId) (ks : List Q1), eqSz P k t = some ks → EqOk P E w k t ks := by
  intro k
  induction k with
  | zero => intro t ks h; cases h
  | succ k ih =>
    intro t ks h
    have h' := h
    simp only [eqSz] at h'
    split at h'
    · rename_i fs hu
      split at h'
      · cases h'
      · rename_i hst
        split at h'
        · rename_i ks' hf
          split at h'
          · cases h'
            have hag := tAg_of hu
            refine ⟨⟨true, hag, fun h => by cases h⟩, fun d hd a b l m r sa sb va vb hl hm hv => ?_⟩
            obtain ⟨xs, rfl⟩ := sa.1 hag
            obtain ⟨ys, rfl⟩ := sb.1 hag
            obtain ⟨d, rfl⟩ : ∃ e, d = e + 1 := ⟨d - 1, by omega⟩
            have hfo : P.fieldsOf t = fs := by simp [Program.fieldsOf, hu]
            rw [run_equalIn_struct w d t xs ys (by rw [hfo]; exact hu) (by simpa using hst), hfo]
            exact eqFs_spec ih (by omega) fs.toList 0 _ hf xs ys l m r va vb (by simpa using hl) (by simpa using hm) (by simpa using hv)
          · cases h'
        · cases h'
    · rename_i n e hu
      split at h'
      · rename_i js hj
        split at h'
        · cases h'
          obtain ⟨hage, hq⟩ := ih _ _ hj
          have hag := tAg_of hu
          refine ⟨⟨true, hag, fun h => by cases h⟩, fun d hd a b l m r sa sb va vb hl hm hv => ?_⟩
          obtain ⟨xs, rfl⟩ := sa.1 hag
          obtain ⟨ys, rfl⟩ := sb.1 hag
          obtain ⟨d, rfl⟩ : ∃ e, d = e + 1 := ⟨d - 1, by omega⟩
          have hl' : l.length = n * js.length := by simpa using hl
          have hm' : m.length = n * js.length := by simpa using hm
          rw [Op.equalIn]
          simp only [Sem.run_bind, run_underlying hu, Result.andThen_ok, run_size (eqSz_size hj)]
          have key : ∀ (F : Nat → Option Bool × Unit → Sem (ForInStep (Option Bool × Unit))), (∀ i s a b p, (part e xs (i * js.length)).run P w = .ok a w → (part e ys (i * js.length)).run P w = .ok b w → (Op.equalIn d e a b).run P w = .ok p w →
                (F i s).run P w = .ok (if p then .yield (none, ()) else .done (some false, ())) w) → ∀ (c i : Nat) (r : Bool), i + c = n → veqs (List.replicate c js).flatten (l.drop (i * js.length)) (m.drop (i * js.length)) = some r →
              ∃ y : Option Bool × Unit, (forIn (List.range' i c) ((none, ()) : Option Bool × Unit) F).run P w = .ok y w ∧ y.1.getD true = r := by
            intro F hF c
            induction c with
            | zero =>
              intro i r hi hv
              rw [List.drop_of_length_le (by rw [hl', ← hi]; simp), List.drop_of_length_le (by rw [hm', ← hi]; simp)] at hv
              cases hv
              exact ⟨_, rfl, rfl⟩
            | succ c ihc =>
              intro i r hi hv
              rw [List.replicate_succ, List.flatten_cons] at hv
              have hle : i * js.length + js.length ≤ n * js.length := by rw [← Nat.succ_mul]; exact Nat.mul_le_mul_right _ (by omega)
              have el : l.drop (i * js.length) = (l.drop (i * js.length)).take js.length ++ l.drop ((i + 1) * js.length) := by rw [Nat.succ_mul, ← List.drop_drop, List.take_append_drop]
              have em : m.drop (i * js.length) = (m.drop (i * js.length)).take js.length ++ m.drop ((i + 1) * js.length) := by rw [Nat.succ_mul, ← List.drop_drop, List.take_append_drop]
              rw [el, em] at hv
              obtain ⟨p, q, e1, e2, e3⟩ := veqs_append (by simp; omega) (by simp; omega) hv
              obtain ⟨a, ra, sa, ca⟩ := run_part (off := i * js.length) w (eqSz_size hj) hage va (by omega)
              obtain ⟨b, rb, sb, cb⟩ := run_part (off := i * js.length) w (eqSz_size hj) hage vb (by omega)
              have h1 := hq d (by omega) a b _ _ p sa sb (by rw [ca]; exact va.slice _ _) (by rw [cb]; exact vb.slice _ _) (by simp; omega) (by simp; omega) e1
              obtain ⟨y, hy, hr⟩ := ihc (i + 1) q (by omega) e2
              rw [List.range'_succ, List.forIn_cons, Sem.run_bind, hF i _ a b p ra rb h1]
              cases p with
              | false => exact ⟨(some false, ()), rfl, by simp [e3]⟩
              | true => exact ⟨y, hy, by simpa [e3] using hr⟩
          simp only [Std.Legacy.Range.forIn_eq_forIn_range', Std.Legacy.Range.size]
          simp only [Nat.sub_zero, Nat.add_sub_cancel, Nat.div_one]
          have main : ∀ (F : Nat → Option Bool × Unit → Sem (ForInStep (Option Bool × Unit))) (G : Option Bool × Unit → World → Result Bool), (∀ i s a b p, (part e xs (i * js.length)).run P w = .ok a w → (part e ys (i * js.length)).run P w = .ok b w → (Op.equalIn d e a b).run P w = .ok p w →
                (F i s).run P w = .ok (if p then .yield (none, ()) else .done (some false, ())) w) → (∀ y, G y w = .ok (y.1.getD true) w) → ((forIn (List.range' 0 n) ((none, ()) : Option Bool × Unit) F).run P w).andThen G = .ok r w := by
            intro F G hF hG
            obtain ⟨y, hy, hr⟩ := key F hF n 0 r (by omega) (by simpa using hv)
            rw [hy, Result.andThen_ok, hG, hr]
          refine main _ _ (fun i s a b p ra rb h1 => ?_) (fun y => ?_)
          · simp only [Sem.run_bind, ra, rb, h1, Result.andThen_ok, Sem.run_ite]
            cases p <;> rfl
          · obtain ⟨y1, y2⟩ := y
            cases y1 <;> rfl
        · cases h'
      · cases h'
    · rename_i td hns hna hu
      split at h'
      · rename_i q hq
        split at h'
        · cases h'
          have hag : tAg P t = some false := by
            rw [tAg_of hu]
            cases td <;> simp [q1Of] at hq <;> rfl
          refine ⟨⟨false, hag, fun _ => rfl⟩, fun d hd a b l m r sa sb va vb hl hm hv => ?_⟩
          have ca := sa.2 hag
          have cb := sb.2 hag
          obtain ⟨d, rfl⟩ : ∃ e, d = e + 1 := ⟨d - 1, by omega⟩
          match l, m, hl, hm with
          | [p], [s], _, _ =>
            have hp : VR E p a := (va.2 0 a (by rw [ca]; rfl)).2 p rfl
            have hs : VR E s b := (vb.2 0 b (by rw [cb]; rfl)).2 s rfl
            simp only [veqs] at hv
            split at hv
            · rename_i r1 r2 h1 h2
              cases h2; cases hv
              rw [Bool.and_true]
              rw [Op.equalIn]
              cases td <;> simp [q1Of] at hq <;> subst hq
              · unfold veq1 at h1
                split at h1 <;> first
                  | (cases h1; cases hp; cases hs; simp [run_underlying hu]; done)
                  | (rename_i he _ _; cases he; done)
                  | (cases h1; done)
                  | (rename_i he; cases he; done)
              · unfold veq1 at h1
                split at h1
                · split at h1
                  · rename_i hk; cases h1; cases hp; cases hs; simp [run_underlying hu, hk]
                  · cases h1
                all_goals first
                  | (cases h1; done)
                  | (rename_i he _ _; cases he; done)
                  | (rename_i he; cases he; done)
              · unfold veq1 at h1
                split at h1 <;> first
                  | (cases h1; cases hp; cases hs; simp [run_underlying hu, beq_toListBytes]; done)
                  | (rename_i he _ _; cases he; done)
                  | (cases h1; done)
                  | (rename_i he; cases he; done)
            · cases hv
        · cases h'
      · cases h'
    · cases h'
end Go.Vs
namespace Go.Vs
open Go.RowKit

section
variable {w0 w : World} {E : Env} {h : Hp} {x : X}

theorem VR.shown {t : TypeId} {a : V} {u : Value} {P : Program} {xs : List V} (ha : VR E a u) (hs : a = .agg xs) (hag : tAg P t = some true) : Shown P t u := by
  subst hs
  cases ha
  exact ⟨fun _ => ⟨_, rfl⟩, fun h => by rw [hag] at h; cases h⟩

theorem VR.agg_vals {xs : List V} {u : Value} (ha : VR E (.agg xs) u) : Vals E xs u.cells.toList := by
  cases ha with
  | agg cs vs hl h h1 =>
    refine ⟨by simpa [Value.cells] using hl, fun j u hu => ?_⟩
    have hu' : vs[j]? = some u := by simpa [Value.cells] using hu
    exact ⟨h1 j u hu', fun x hx => h j x u hx hu'⟩

/-- The check at a comparison. -/
def ckBin (P : Program) (op : BinOp) (t : TypeId) (q : Q) (x y : O) : Bool := match q with
  | .num => true
  | .str => true
  | .agg ks => (op == .eql || op == .neq) && eqSz P 20 t == some ks && tAg P t == some true && P.eqGuardType P.depth t == false
  | .ifc => (op == .eql || op == .neq) && ckQ P t .ifc && (!x.isTmp || !y.isTmp)
  | q => (op == .eql || op == .neq) && ckQ P t q

theorem eqGuard_other {P : Program} {w : World} {op : BinOp} {t : TypeId} {x y : Operand} {a b : Value} (hn : ∀ xs ys, ¬ (a = .agg xs ∧ b = .agg ys)) (hi : a = .nilIface → b = .nilIface → (∃ v, x = .const v) ∨ ∃ v, y = .const v) :
    (eqGuard op t x y a b).run P w = .ok () w := by
  cases op <;> first
    | rfl
    | (simp only [eqGuard, Bool.not_true, Bool.false_eq_true, if_false]
       split
       · rcases hi rfl rfl with ⟨v, rfl⟩ | ⟨v, rfl⟩ <;> simp
       · rename_i xs ys; exact absurd ⟨rfl, rfl⟩ (hn xs ys)
       · rfl)

theorem ckO_nifc {p : Operand} {o : O} {t : Nat → V} (h : ckO p o = true) (ht : o.isTmp = false) (he : o.ev x t = .nifc) : ∃ v, p = .const v := by
  cases o with
  | t n => cases ht
  | k v =>
    simp only [O.ev] at he
    subst he
    cases p <;> simp [ckO] at h
    exact ⟨_, rfl⟩
  | g n => cases he

theorem VR.of_agg {a : V} {us : Array Value} (ha : VR E a (.agg us)) : ∃ xs, a = .agg xs := by cases ha; exact ⟨_, rfl⟩
theorem VR.of_nifc {a : V} (ha : VR E a .nilIface) : a = .nifc := by cases ha; rfl

theorem veq_shape {q : Q} {a b : V} {r : Bool} (h : veq q a b = some r) (hq : ∀ ks, q ≠ .agg ks) {ua ub : Value} (ha : VR E a ua) (hb : VR E b ub) :
    (∀ xs ys, ¬ (ua = .agg xs ∧ ub = .agg ys)) ∧ (ua = .nilIface → ub = .nilIface → q = .ifc) := by
  refine ⟨fun xs ys ⟨h1, h2⟩ => ?_, fun h1 h2 => ?_⟩
  · subst h1; subst h2
    obtain ⟨l, rfl⟩ := ha.of_agg
    obtain ⟨m, rfl⟩ := hb.of_agg
    cases q <;> simp [veq] at h
    exact hq _ rfl
  · subst h1; subst h2
    rw [ha.of_nifc, hb.of_nifc] at h
    cases q <;> simp [veq] at h
    rfl

/-- What is compared by 'Op.equal', by kinds. -/
theorem binOp_eql {q : Q} {a b : V} {r : Bool} (h : veq q a b = some r) (h1 : q ≠ .num) (h2 : q ≠ .str) (h3 : ∀ ks, q ≠ .agg ks) {t : TypeId} {ua ub : Value} (ha : VR E a ua) (hb : VR E b ub) :
    binOp .eql t ua ub = (do pure (.bool (← Op.equal t ua ub))) ∧ binOp .neq t ua ub = (do pure (.bool (!(← Op.equal t ua ub)))) := by
  cases q
  case num => exact absurd rfl h1
  case str => exact absurd rfl h2
  case agg ks => exact absurd rfl (h3 ks)
  all_goals
    cases ha <;> first
      | (simp [veq] at h; done)
      | (cases hb <;> first
          | (simp [veq] at h; done)
          | exact ⟨rfl, rfl⟩)

theorem veqs_len : ∀ {ks : List Q1} {xs ys : List V} {r : Bool}, veqs ks xs ys = some r → xs.length = ks.length ∧ ys.length = ks.length
  | [], [], [], _, _ => ⟨rfl, rfl⟩
  | k :: ks, x :: xs, y :: ys, r, h => by
    simp only [veqs] at h
    split at h
    · rename_i h2
      have := veqs_len h2
      simp [this.1, this.2]
    · cases h
  | [], _ :: _, _, _, h => by simp [veqs] at h
  | [], [], _ :: _, _, h => by simp [veqs] at h
  | _ :: _, [], _, _, h => by simp [veqs] at h
  | _ :: _, _ :: _, [], _, h => by simp [veqs] at h

theorem does_bin {op : BinOp} {t : TypeId} {q : Q} {p1 p2 : Operand} {o1 o2 : O} {tt : Nat → V} {ua ub : Value} {v : V} (H : SR w0 E h w) (ho1 : ckO p1 o1 = true) (ho2 : ckO p2 o2 = true) (hck : ckBin x.P op t q o1 o2 = true)
    (ha : VR E (o1.ev x tt) ua) (hb : VR E (o2.ev x tt) ub) (hv : binV op q (o1.ev x tt) (o2.ev x tt) = some v) :
    Does x w0 E w ((do pure (.value (← (do eqGuard op t p1 p2 ua ub; binOp op t ua ub))) : Sem Next).run x.P w) (some (.val v h)) := by
  have key : (eqGuard op t p1 p2 ua ub).run x.P w = .ok () w ∧ ∃ u, (binOp op t ua ub).run x.P w = .ok u w ∧ VR E v u := by
    generalize haa : o1.ev x tt = a at *
    generalize hbb : o2.ev x tt = b at *
    have other : ∀ q', q = q' → (∀ ks, q' ≠ .agg ks) → q' ≠ .num → q' ≠ .str → ckQ x.P t q' = true → (op = .eql ∨ op = .neq) → ((ua = .nilIface → ub = .nilIface → (∃ v, p1 = .const v) ∨ ∃ v, p2 = .const v)) →
        (eqGuard op t p1 p2 ua ub).run x.P w = .ok () w ∧ ∃ u, (binOp op t ua ub).run x.P w = .ok u w ∧ VR E v u := by
      intro q' hq hna hnn hns hc hop hi
      subst hq
      have hb' : ∃ r, veq q a b = some r ∧ ((op = .eql ∧ v = .bool r) ∨ (op = .neq ∧ v = .bool !r)) := by
        unfold binV at hv
        split at hv
        · exact absurd rfl hnn
        · exact absurd rfl hns
        · rcases hop with rfl | rfl
          · simp only [Option.map_eq_some_iff] at hv
            obtain ⟨r, h1, h2⟩ := hv
            exact ⟨r, h1, .inl ⟨rfl, h2.symm⟩⟩
          · simp only [Option.map_eq_some_iff] at hv
            obtain ⟨r, h1, h2⟩ := hv
            exact ⟨r, h1, .inr ⟨rfl, h2.symm⟩⟩
      obtain ⟨r, hr, hv'⟩ := hb'
      have hsh := veq_shape hr hna ha hb
      refine ⟨eqGuard_other hsh.1 hi, ?_⟩
      have he := run_equal1 (w := w) hc ha hb hr
      obtain ⟨b1, b2⟩ := binOp_eql (t := t) hr hnn hns hna ha hb
      rcases hv' with ⟨rfl, rfl⟩ | ⟨rfl, rfl⟩
      · exact ⟨.bool r, by rw [b1]; simp [he], .bool r⟩
      · exact ⟨.bool !r, by rw [b2]; simp [he], .bool _⟩
    cases q with
    | num =>
      have hv' := hv
      simp only [binV] at hv
      split at hv
      · cases ha; cases hb
        obtain ⟨u, h1, h2⟩ := run_int (P := x.P) (t := t) (w := w) hv'
        exact ⟨eqGuard_other (fun _ _ h => by cases h.1) (fun h => by cases h), u, h1, h2 E⟩
      · cases hv
    | str =>
      simp only [binV] at hv
      split at hv
      · cases ha; cases hb
        obtain ⟨u, h1, h2⟩ := run_str (P := x.P) (t := t) (w := w) hv
        exact ⟨eqGuard_other (fun _ _ h => by cases h.1) (fun h => by cases h), u, h1, h2 E⟩
      · cases hv
    | agg ks =>
      simp only [ckBin, Bool.and_eq_true, Bool.or_eq_true, beq_iff_eq] at hck
      obtain ⟨⟨⟨hop, hsz⟩, hag⟩, hg⟩ := hck
      have hb' : ∃ r, veq (.agg ks) a b = some r ∧ ((op = .eql ∧ v = .bool r) ∨ (op = .neq ∧ v = .bool !r)) := by
        simp only [binV] at hv
        rcases hop with rfl | rfl
        · simp only [Option.map_eq_some_iff] at hv
          obtain ⟨r, h1, h2⟩ := hv
          exact ⟨r, h1, .inl ⟨rfl, h2.symm⟩⟩
        · simp only [Option.map_eq_some_iff] at hv
          obtain ⟨r, h1, h2⟩ := hv
          exact ⟨r, h1, .inr ⟨rfl, h2.symm⟩⟩
      obtain ⟨r, hr, hv'⟩ := hb'
      obtain ⟨xs, ys, rfl, rfl, hr⟩ : ∃ xs ys, a = .agg xs ∧ b = .agg ys ∧ veqs ks xs ys = some r := by
        cases a <;> (try (simp [veq] at hr; done))
        cases b <;> (try (simp [veq] at hr; done))
        exact ⟨_, _, rfl, rfl, by simpa [veq] using hr⟩
      have va := ha.agg_vals
      have vb := hb.agg_vals
      have sa := ha.shown rfl hag
      have sb := hb.shown rfl hag
      have hlen := veqs_len hr
      have he := (eq_spec w 20 t ks hsz).2 10000 (by omega) ua ub xs ys r sa sb va vb hlen.1 hlen.2 hr
      obtain ⟨us, rfl⟩ := sa.1 hag
      obtain ⟨ts, rfl⟩ := sb.1 hag
      refine ⟨run_eqGuard_agg w op t p1 p2 us ts hg, ?_⟩
      rcases hv' with ⟨rfl, rfl⟩ | ⟨rfl, rfl⟩
      · exact ⟨.bool r, by rw [run_eql_struct, he]; rfl, .bool r⟩
      · exact ⟨.bool !r, by rw [run_neq_struct, he]; rfl, .bool _⟩
    | ifc =>
      simp only [ckBin, Bool.and_eq_true, Bool.or_eq_true, beq_iff_eq, Bool.not_eq_true'] at hck
      obtain ⟨⟨hop, hc⟩, ht⟩ := hck
      refine other .ifc rfl (fun _ => by simp) (by simp) (by simp) hc hop (fun h1 h2 => ?_)
      subst h1; subst h2
      have ea : a = .nifc := by cases ha; rfl
      have eb : b = .nifc := by cases hb; rfl
      rcases ht with ht | ht
      · exact .inl (ckO_nifc (x := x) (t := tt) ho1 ht (haa.trans ea))
      · exact .inr (ckO_nifc (x := x) (t := tt) ho2 ht (hbb.trans eb))
    | _ =>
      simp only [ckBin, Bool.and_eq_true, Bool.or_eq_true, beq_iff_eq] at hck
      refine other _ rfl (fun _ => by simp) (by simp) (by simp) hck.2 hck.1 (fun h1 h2 => ?_)
      exfalso
      subst h1; subst h2
      cases ha; cases hb
      rcases hck.1 with rfl | rfl <;> simp [binV, veq] at hv
  obtain ⟨hg, u, hr, hu⟩ := key
  exact Does.same H (by simp [hg, hr]) hu
end
end Go.Vs
