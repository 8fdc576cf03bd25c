/- New rows, told as blocks or frozen at once; a block that is frozen. -/
import Derived.Test.YtpefpiccljohlaaZvRows
namespace Go.Vs
open Go.RowKit

theorem VR.one {E : Env} {x : V} {v : Value} (h : VR E x v) : v.oneCell' = x.one := by cases h <;> rfl

theorem VR.cells {E : Env} {x : V} {v : Value} (h : VR E x v) : v.cells.size = x.cells.length ∧ ∀ (j : Nat) c u, x.cells[j]? = some c → v.cells[j]? = some u → VR E c u := by
  cases h with
  | agg cs vs hl h h1 => exact ⟨hl, h⟩
  | _ =>
    refine ⟨rfl, fun j c u hc hu => ?_⟩
    cases j with
    | zero => simp [V.cells] at hc; simp [Value.cells] at hu; subst hc; subst hu; constructor <;> assumption
    | succ j => simp [V.cells] at hc

/-- A value whose cells are of one cell each, cell by cell. -/
theorem VR.vals {E : Env} {x : V} {v : Value} (h : VR E x v) (h1 : ∀ c ∈ x.cells, c.one = true) : Vals E x.cells v.cells.toList := by
  obtain ⟨hs, hc⟩ := h.cells
  refine ⟨by simpa using hs, fun j u hu => ?_⟩
  have hu' : v.cells[j]? = some u := by simpa using hu
  have hj : j < x.cells.length := by
    rw [← hs]
    rcases Nat.lt_or_ge j v.cells.size with h' | h'
    · exact h'
    · rw [Array.getElem?_eq_none h'] at hu'; cases hu'
  have hx := hc j _ u (List.getElem?_eq_getElem hj) hu'
  exact ⟨by rw [hx.one]; exact h1 _ (List.getElem_mem hj), fun y hy => hc j y u hy hu'⟩

section
variable {w0 w w' : World} {E : Env} {h : Hp} {P : Program}

/-- The world has one block more, of cells, none of which is frozen. -/
structure Made (w w' : World) (c : Array Value) : Prop where
  below : Below w.heap.size w w'
  size : w.heap.size < w'.heap.size
  cell : ∀ o, w'.cell? ⟨w.heap.size, o, none⟩ = c[o]?
  free : ∀ o, o < c.size → w'.frozen? ⟨w.heap.size, o, none⟩ = false

theorem Made.alloc (w : World) (c : Array Value) (t : TypeId) : Made w (w.alloc (.cells c t)) c :=
  ⟨(Below.refl _ _).alloc (Nat.le_refl _) _, by simp, fun o => by simp, fun o _ => by simp⟩

def newLoc (w : World) (n : Nat) : Loc := ⟨w.heap.size, 0, fun b o => b = w.heap.size ∧ o < n⟩

theorem SR.newCellsT (H : SR w0 E h w) {c : Array Value} (hm : Made w w' c) {l : List V} {vs : List Value} {ty : Option TypeId} (hty : TyR w' (newLoc w c.size) ty) (hv : Vals E l vs) (hc : ∀ (j : Nat) u, vs[j]? = some u → c[j]? = some u) :
    SR w0 (E.add (newLoc w c.size)) (h ++ [some (.cells l ty)]) w' := by
  refine H.new (newLoc w c.size) (.cells l ty) hm.below rfl ⟨hty, H.below.size, hm.size, fun b o ⟨h1, h2⟩ => ⟨h1, ?_, ?_⟩, fun j hj => ?_⟩
  · rw [h1, hm.cell, Array.getElem?_eq_getElem h2]; rfl
  · rw [h1]; exact hm.free o h2
  · have hjv : j < vs.length := by rw [hv.1]; exact hj
    have h1 := hc j _ (List.getElem?_eq_getElem hjv)
    have h2 := hv.2 j _ (List.getElem?_eq_getElem hjv)
    have h3 : j < c.size := by
      rcases Nat.lt_or_ge j c.size with h' | h'
      · exact h'
      · rw [Array.getElem?_eq_none h'] at h1; cases h1
    exact ⟨⟨rfl, by simpa [newLoc] using h3⟩, vs[j], by simp only [newLoc, Nat.zero_add]; rw [hm.cell]; exact h1, (h2.2 _ (List.getElem?_eq_getElem hj)).mono (Le.add E _), h2.1⟩

theorem SR.newCells (H : SR w0 E h w) {c : Array Value} (hm : Made w w' c) {l : List V} {vs : List Value} (hv : Vals E l vs) (hc : ∀ (j : Nat) u, vs[j]? = some u → c[j]? = some u) :
    SR w0 (E.add (newLoc w c.size)) (h ++ [some (.cells l)]) w' := H.newCellsT hm TyR.none hv hc

theorem TyR.alloc (w : World) (c : Array Value) (t : TypeId) {ty : Option TypeId} (h : ∀ T, ty = some T → T = t) : TyR (w.alloc (.cells c t)) (newLoc w c.size) ty := fun T hT => by
  rw [h T hT]
  exact ⟨rfl, c.size, by simp only [newLoc, World.shape?, heap_alloc_new], fun o ho => ⟨rfl, ho⟩⟩

theorem VR.newPtr (H : SR w0 E h w) (n : Nat) : VR (E.add (newLoc w n)) (.ptr h.length 0) (.pointer (some ⟨w.heap.size, 0, none⟩)) :=
  .ptr _ _ _ (by rw [H.len]; simp [Env.add]) fun l hl => by
    simp only [Env.add, H.len, if_pos] at hl
    cases hl; rfl

theorem VR.newSl (H : SR w0 E h w) (len cap' cap n : Nat) (ex : Bool) (es : Nat) (ag : Bool) (hl : len ≤ cap) (hc : cap ≤ cap') (hex : ex = true → cap' = cap) (hn : cap' * es ≤ n) :
    VR (E.add (newLoc w n)) (.sl h.length 0 len cap ex es ag) (.slice (some ⟨w.heap.size, 0, none⟩) len cap') :=
  .sl _ _ _ _ _ _ _ _ _ (by rw [H.len]; simp [Env.add]) hl hc hex fun l hl => by
    simp only [Env.add, H.len, if_pos] at hl
    cases hl
    exact ⟨.inr rfl, fun j hj => ⟨rfl, by simp only [newLoc]; omega⟩⟩

/-! ### frozen at once -/
def Env.ice (E : Env) (b : Nat) (c : Array Value) : Env := { E with frz := fun b' o => if b' = b then c[o]? else E.frz b' o }

theorem Le.ice (H : SR w0 E h w) (c : Array Value) : Le E (E.ice w.heap.size c) :=
  ⟨Nat.le_refl _, fun _ _ _ hm => hm, fun b o v hf => by
    have := H.frz_lt hf
    simp only [Env.ice]; rw [if_neg (by omega)]; exact hf, rfl⟩

theorem SR.newFrz (H : SR w0 E h w) {c : Array Value} (hm : Made w w' c) : SR w0 (E.ice w.heap.size c) h w' := by
  have hold := H.of_blocks hm.below
  have hle := Le.ice H c
  refine ⟨hold.len, hold.below, fun b o v hf => ?_, fun β x hx => ?_, hold.non, hold.dis, fun β l b o hl ho => ?_, fun b o ho => ⟨(hold.old b o ho).1, ?_, (H.old b o ho).2.2⟩⟩
  · simp only [Env.ice] at hf
    split at hf
    · rename_i hb; rw [hb, hm.cell]; exact hf
    · exact hold.frz b o v hf
  · obtain ⟨l, hl, hr⟩ := hold.blk β x hx
    exact ⟨l, hl, hr.mono hle (Nat.le_refl _) rfl⟩
  · simp only [Env.ice]
    obtain ⟨x, hx⟩ := H.non β l hl
    obtain ⟨l2, hl2, hr⟩ := H.blk β x hx
    have hl' : E.mu β = some l := hl
    rw [hl'] at hl2; cases hl2
    have h1 := hr.own b o ho
    have h2 := hr.lt
    rw [if_neg (by omega)]
    exact H.dfr β l b o hl ho
  · have := (H.old b o ho).1
    simp only [Env.ice]
    rw [if_neg (by omega)]
    exact (H.old b o ho).2.1

/-! ### a block is frozen -/
open Classical in
noncomputable def Env.freeze (E : Env) (w : World) (β : Nat) (l : Loc) : Env :=
  { E.kill β with frz := fun b o => if l.own b o then w.cell? ⟨b, o, none⟩ else E.frz b o }

theorem Le.freeze (H : SR w0 E h w) (β : Nat) (l : Loc) : Le E (E.freeze w β l) :=
  ⟨Nat.le_refl _, (Le.kill E β).mu, fun b o v hf => by
    simp only [Env.freeze]
    split
    · exact H.frz b o v hf
    · exact hf, rfl⟩

theorem SR.freeze (H : SR w0 E h w) {β : Nat} {l : Loc} (hm : E.mu β = some l) : SR w0 (E.freeze w β l) (h.set β none) w := by
  have hk := H.kill β
  refine ⟨hk.len, hk.below, fun b o v hf => ?_, fun γ x hx => ?_, hk.non, hk.dis, fun γ l' b o hl ho => ?_, fun b o ho => ⟨(hk.old b o ho).1, ?_, (hk.old b o ho).2.2⟩⟩
  · simp only [Env.freeze] at hf
    split at hf
    · exact hf
    · exact H.frz b o v hf
  · obtain ⟨l', hl', hr⟩ := hk.blk γ x hx
    have hE : Le (E.kill β) (E.freeze w β l) := ⟨Nat.le_refl _, fun _ _ _ h => h, fun b o v hf => ?_, rfl⟩
    · exact ⟨l', hl', hr.mono hE (Nat.le_refl _) rfl⟩
    simp only [Env.freeze]
    split
    · exact H.frz b o v hf
    · exact hf
  · simp only [Env.freeze]
    have hl2 : E.mu γ = some l' := by
      simp only [Env.freeze, Env.kill] at hl
      split at hl
      · cases hl
      · exact hl
    have hne : γ ≠ β := by
      intro e
      simp only [Env.freeze, Env.kill, e, if_pos] at hl
      cases hl
    rw [if_neg (fun ho' => hne (H.dis γ β l' l b o hl2 hm ho ho'))]
    exact H.dfr γ l' b o hl2 ho
  · simp only [Env.freeze]
    rw [if_neg ((H.old b o ho).2.2 β l hm)]
    exact (H.old b o ho).2.1

theorem chunk_spec (es : Nat) (ag : Bool) : ∀ (n : Nat) (l : List V), l.length = n * es → (ag = false → es = 1) → (∀ x ∈ l, x.one = true) →
    (chunk es ag n l).length = n ∧ flat (chunk es ag n l) = l ∧ ∀ x ∈ chunk es ag n l, x.cells.length = es
  | 0, l, hl, _, _ => by
    have : l = [] := List.eq_nil_of_length_eq_zero (by omega)
    subst this
    simp [chunk, flat]
  | n + 1, l, hl, hag, h1 => by
    have hl' : l.length = n * es + es := by rw [hl, Nat.succ_mul]
    obtain ⟨i1, i2, i3⟩ := chunk_spec es ag n (l.drop es) (by rw [List.length_drop]; omega) hag (fun x hx => h1 x (List.mem_of_mem_drop hx))
    cases ag with
    | true =>
      refine ⟨by simp [chunk, i1], ?_, fun x hx => ?_⟩
      · simp only [flat] at i2
        simp [chunk, flat, V.cells, i2]
      · simp only [chunk, if_true, List.mem_cons] at hx
        rcases hx with rfl | hx
        · simp [V.cells]; omega
        · exact i3 x hx
    | false =>
      have he := hag rfl
      subst he
      match l, hl', i1, i2, i3, h1 with
      | y :: r, hl', i1, i2, i3, h1 =>
        have hy : y.cells = [y] := by
          have := h1 y (by simp)
          cases y <;> first | rfl | simp [V.one] at this
        refine ⟨by simpa [chunk] using i1, ?_, fun x hx => ?_⟩
        · simp only [flat] at i2
          simpa [chunk, flat, hy] using i2
        · simp only [chunk, Bool.false_eq_true, if_false, List.headD_cons, List.mem_cons] at hx
          rcases hx with rfl | hx
          · rw [hy]; rfl
          · exact i3 x hx

/-- A told row, frozen: a slice over it. -/
theorem VR.lst_of {E : Env} {es : Nat} {ag ex : Bool} {n : Nat} {l : List V} {vs : List Value} {b p cap : Nat} (hl : l.length = n * es) (hag : ag = false → es = 1) (hv : Vals E l vs)
    (hf : ∀ (j : Nat) u, vs[j]? = some u → E.frz b (p + j) = some u) (hc : n ≤ cap) (hex : ex = true → cap = n) (a : Addr) (ha : n ≠ 0 → a = ⟨b, p, none⟩) : VR E (.lst ex (chunk es ag n l)) (.slice (some a) n cap) := by
  have hone : ∀ x ∈ l, x.one = true := fun x hx => by
    obtain ⟨j, hj, rfl⟩ := List.getElem_of_mem hx
    have hjv : j < vs.length := by rw [hv.1]; exact hj
    have := hv.2 j _ (List.getElem?_eq_getElem hjv)
    rw [← (this.2 _ (List.getElem?_eq_getElem hj)).one]; exact this.1
  obtain ⟨c1, c2, c3⟩ := chunk_spec es ag n l hl hag hone
  have hget : ∀ j, j < (flat (chunk es ag n l)).length → ∃ hj : j < vs.length, True := fun j hj => ⟨by rw [c2] at hj; rw [hv.1]; exact hj, trivial⟩
  have := VR.lst (E := E) ex (chunk es ag n l) es a b p cap (fun j => vs.getD j undef) (by rw [c1]; exact hc) (fun e => by rw [c1]; exact hex e) c3
    (fun hne => ha (fun e => hne (List.eq_nil_of_length_eq_zero (by rw [c1, e]))))
    (fun j hj => by obtain ⟨hjv, _⟩ := hget j hj; rw [hf j vs[j] (List.getElem?_eq_getElem hjv)]; simp [List.getD, List.getElem?_eq_getElem hjv])
    (fun j hj => by
      obtain ⟨hjv, _⟩ := hget j hj
      have h1 := (hv.2 j vs[j] (List.getElem?_eq_getElem hjv)).2 (flat (chunk es ag n l))[j] (by rw [← List.getElem?_eq_getElem hj]; simp [c2])
      simpa [List.getD, List.getElem?_eq_getElem hjv] using h1)
    (fun j hj => by
      obtain ⟨hjv, _⟩ := hget j hj
      have h1 := (hv.2 j vs[j] (List.getElem?_eq_getElem hjv)).1
      simpa [List.getD, List.getElem?_eq_getElem hjv] using h1)
  rwa [c1] at this
end
end Go.Vs
