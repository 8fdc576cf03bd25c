/- Rows of cells: read, written, made, frozen. -/
import Derived.Test.YtpefpiccljohlaaZvVc
import Derived.Laws.IdiomCopy
import Derived.Laws.Cells
namespace Go.Vs
open Go.RowKit

/-- The cells of block b from p on hold what l tells. -/
def Row (E : Env) (w : World) (b p : Nat) (l : List V) (vs : List Value) : Prop :=
  vs.length = l.length ∧ ∀ (j : Nat) u, vs[j]? = some u → w.cell? ⟨b, p + j, none⟩ = some u ∧ u.oneCell' = true ∧ ∀ x, l[j]? = some x → VR E x u

theorem sub_spec {cs l : List V} {o n : Nat} (h : sub cs o n = some l) : o + n ≤ cs.length ∧ l.length = n ∧ ∀ j, j < n → l[j]? = cs[o + j]? := by
  unfold sub at h
  split at h
  · rename_i hle
    cases h
    refine ⟨hle, by simp; omega, fun j hj => ?_⟩
    rw [List.getElem?_take_of_lt hj, List.getElem?_drop]
  · cases h

theorem Addr.add_none (b p j : Nat) : (⟨b, p, none⟩ : Addr).add j = ⟨b, p + j, none⟩ := by unfold Addr.add; split <;> simp_all

section
variable {w0 w : World} {E : Env} {h : Hp} {P : Program}

theorem exists_list (n : Nat) (f : Nat → Value) : ∃ vs : List Value, vs.length = n ∧ ∀ j u, vs[j]? = some u → u = f j ∧ j < n :=
  ⟨(List.range n).map f, by simp, fun j u hu => by
    rw [List.getElem?_map] at hu
    rcases Nat.lt_or_ge j n with hj | hj
    · rw [List.getElem?_range hj] at hu
      exact ⟨(by simpa using hu.symm), hj⟩
    · rw [List.getElem?_eq_none (by simpa using hj)] at hu; cases hu⟩

theorem exists_vals {n : Nat} {p : Nat → Value → Prop} (h : ∀ j, j < n → ∃ v, p j v) : ∃ f : Nat → Value, ∀ j, j < n → p j (f j) :=
  ⟨fun j => if hj : j < n then (h j hj).choose else undef, fun j hj => by simp only [hj, dif_pos]; exact (h j hj).choose_spec⟩

theorem hget_spec {β : Nat} {x : Blk} (hx : hget h β = some x) : h[β]? = some (some x) := by
  unfold hget at hx
  cases hh : h[β]? with
  | none => rw [hh] at hx; cases hx
  | some y => rw [hh] at hx; simp at hx; rw [hx]

/-- A live block, cell by cell. -/
theorem SR.live (H : SR w0 E h w) {β : Nat} {cs : List V} {ty : Option TypeId} (hx : hget h β = some (.cells cs ty)) : ∃ l, E.mu β = some l ∧ BR w0.heap.size E w l (.cells cs ty) := H.blk β _ (hget_spec hx)

theorem BR.row {B : Nat} {l : Loc} {cs l' : List V} {ty : Option TypeId} {o n : Nat} (hb : BR B E w l (.cells cs ty)) (hs : sub cs o n = some l') : ∃ vs, Row E w l.b (l.base + o) l' vs := by
  obtain ⟨hle, hln, hget⟩ := sub_spec hs
  obtain ⟨_, _, _, _, h4⟩ := hb
  obtain ⟨f, hf⟩ := exists_vals (n := n) (p := fun j v => w.cell? ⟨l.b, l.base + (o + j), none⟩ = some v ∧ (∀ x, cs[o + j]? = some x → VR E x v) ∧ v.oneCell' = true) (fun j hj => by
    obtain ⟨_, v, h1, h2, h3⟩ := h4 (o + j) (by omega)
    exact ⟨v, h1, fun x hx => by rw [List.getElem?_eq_getElem (by omega)] at hx; cases hx; exact h2, h3⟩)
  obtain ⟨vs, hl, hv⟩ := exists_list n f
  refine ⟨vs, by rw [hl, hln], fun j u hu => ?_⟩
  obtain ⟨rfl, hj⟩ := hv j u hu
  obtain ⟨h1, h2, h3⟩ := hf j hj
  exact ⟨by rw [← h1]; congr 2; omega, h3, fun x hx => h2 x (by rw [← hget j hj]; exact hx)⟩

theorem fp_row (H : SR w0 E h w) {cs l : List V} {o n : Nat} {v : Value} (hv : VR E (.fp cs o) v) (hs : sub cs o n = some l) : ∃ b p vs, v = .pointer (some ⟨b, p, none⟩) ∧ Row E w b p l vs := by
  obtain ⟨hle, hln, hget⟩ := sub_spec hs
  cases hv with
  | fp _ _ b p vals h1 h2 h3 =>
    obtain ⟨vs, hl, hv⟩ := exists_list n (fun j => vals (o + j))
    refine ⟨b, p + o, vs, rfl, by rw [hl, hln], fun j u hu => ?_⟩
    obtain ⟨rfl, hj⟩ := hv j u hu
    refine ⟨by rw [← H.frz b (p + (o + j)) _ (h1 (o + j) (by omega))]; congr 2; omega, h3 _ (by omega), fun x hx => ?_⟩
    rw [hget j hj, List.getElem?_eq_getElem (by omega)] at hx
    cases hx
    exact h2 _ _

/-- What a pointer that is told leads to. -/
theorem rd_row (H : SR w0 E h w) {a : V} {v : Value} {n : Nat} {l : List V} (hv : VR E a v) (hr : rd h a n = some l) : ∃ b p vs, v = .pointer (some ⟨b, p, none⟩) ∧ Row E w b p l vs ∧ l.length = n := by
  cases a with
  | ptr β o =>
    simp only [rd] at hr
    split at hr
    · rename_i cs hg
      obtain ⟨lc, hm, hb⟩ := H.live hg
      obtain ⟨vs, hrow⟩ := hb.row hr
      cases hv with
      | ptr _ _ a hn ha =>
        rw [ha lc hm]
        exact ⟨_, _, vs, rfl, hrow, (sub_spec hr).2.1⟩
    · cases hr
  | fp cs o =>
    simp only [rd] at hr
    obtain ⟨b, p, vs, h1, h2⟩ := fp_row H hv hr
    exact ⟨b, p, vs, h1, h2, (sub_spec hr).2.1⟩
  | _ => simp [rd] at hr

theorem Row.loads {b p : Nat} {l : List V} {vs : List Value} (hr : Row E w b p l vs) : (loadCells ⟨b, p, none⟩ l.length).run P w = .ok vs.toArray w := by
  rw [← hr.1]
  exact run_loadCells_list w ⟨b, p, none⟩ vs (fun j v hv => by rw [Addr.add_none]; exact (hr.2 j v hv).1)

theorem Row.agg {b p : Nat} {l : List V} {vs : List Value} (hr : Row E w b p l vs) : VR E (.agg l) (.agg vs.toArray) :=
  .agg l _ (by simpa using hr.1) (fun j x v hx hv => (hr.2 j v (by simpa using hv)).2.2 x hx) (fun j v hv => (hr.2 j v (by simpa using hv)).2.1)

theorem asV_spec {ag : Bool} {l : List V} {x : V} (h : asV ag l = some x) : (ag = true ∧ x = .agg l) ∨ (ag = false ∧ l = [x]) := by
  cases ag with
  | true => simp [asV] at h; exact .inl ⟨rfl, h.symm⟩
  | false =>
    match l, h with
    | [y], h => simp [asV] at h; subst h; exact .inr ⟨rfl, rfl⟩
    | [], h => simp [asV] at h
    | _ :: _ :: _, h => simp [asV] at h

/-! ### stores -/
theorem setAll_length (cs : List V) (o : Nat) (xs : List V) : (setAll cs o xs).length = cs.length := by
  induction xs generalizing cs o with
  | nil => rfl
  | cons x r ih => simp [setAll, ih]

theorem setAll_out (cs : List V) (o : Nat) (xs : List V) (j : Nat) (hj : j < o ∨ o + xs.length ≤ j) : (setAll cs o xs)[j]? = cs[j]? := by
  induction xs generalizing cs o with
  | nil => rfl
  | cons x r ih =>
    simp only [setAll]
    rw [ih _ _ (by simp at hj; omega), List.getElem?_set_ne (by simp at hj; omega)]

theorem setAll_in (cs : List V) (o : Nat) (xs : List V) (j : Nat) (hj : j < xs.length) (hle : o + xs.length ≤ cs.length) : (setAll cs o xs)[o + j]? = xs[j]? := by
  induction xs generalizing cs o j with
  | nil => simp at hj
  | cons x r ih =>
    simp only [setAll]
    cases j with
    | zero =>
      rw [setAll_out _ _ _ _ (by omega)]
      rw [List.length_cons] at hle
      rw [Nat.add_zero, List.getElem?_set_self (by omega)]; rfl
    | succ j =>
      have := ih (cs.set o x) (o + 1) j (by simpa using hj) (by simp at hle ⊢; omega)
      rw [show o + (j + 1) = o + 1 + j by omega, this]; simp

/-- The list of a told row's values, one by one, all of one cell. -/
def Vals (E : Env) (l : List V) (vs : List Value) : Prop := vs.length = l.length ∧ ∀ (j : Nat) u, vs[j]? = some u → u.oneCell' = true ∧ ∀ x, l[j]? = some x → VR E x u

theorem Row.vals {b p : Nat} {l : List V} {vs : List Value} (hr : Row E w b p l vs) : Vals E l vs := ⟨hr.1, fun j u hu => (hr.2 j u hu).2⟩
theorem Vals.mono {E' : Env} (hE : Le E E') {l : List V} {vs : List Value} (hv : Vals E l vs) : Vals E' l vs :=
  ⟨hv.1, fun j u hu => ⟨(hv.2 j u hu).1, fun x hx => ((hv.2 j u hu).2 x hx).mono hE⟩⟩

theorem heap_setCells (b : Nat) : ∀ (vs : List Value) (o : Nat) (w : World) (k : Nat), k ≠ b → (w.setCells b o vs).heap[k]? = w.heap[k]?
  | [], _, _, _, _ => rfl
  | v :: r, o, w, k, hk => by rw [World.setCells, heap_setCells b r _ _ k hk, Below.heap_setCell _ _ _ _ hk]
theorem size_setCells (b : Nat) : ∀ (vs : List Value) (o : Nat) (w : World), (w.setCells b o vs).heap.size = w.heap.size
  | [], _, _ => rfl
  | v :: r, o, w => by rw [World.setCells, size_setCells b r]; simp
theorem below_setCells (b B : Nat) (hB : B ≤ b) : ∀ (vs : List Value) (o : Nat) (w : World), Below B w (w.setCells b o vs)
  | [], _, _ => Below.refl _ _
  | v :: r, o, w => ((Below.refl B w).setCell (p := ⟨b, o, none⟩) hB v).trans (below_setCells b B hB r (o + 1) _)

theorem wr_spec {β o : Nat} {xs : List V} {h' : Hp} (hw : wr h β o xs = some h') : ∃ cs ty, hget h β = some (.cells cs ty) ∧ o + xs.length ≤ cs.length ∧ h' = h.set β (some (.cells (setAll cs o xs) ty)) := by
  unfold wr at hw
  split at hw
  · rename_i cs ty hg
    split at hw
    · rename_i hle; cases hw; exact ⟨cs, ty, hg, hle, rfl⟩
    · cases hw
  · cases hw

theorem shape_setCells (b : Nat) : ∀ (vs : List Value) (o : Nat) (w : World) (c : Nat), (w.setCells b o vs).shape? c = w.shape? c
  | [], _, _, _ => rfl
  | v :: r, o, w, c => by
    rw [World.setCells, shape_setCells b r]
    unfold World.shape? World.setCell
    simp only [Array.getElem?_modify]
    by_cases hbc : b = c
    · subst hbc
      simp only [if_true]
      cases w.heap[b]? with
      | none => rfl
      | some x => cases x <;> simp
    · simp only [hbc, if_false]

/-- Cells of a block of the call's own are written. -/
theorem SR.write (H : SR w0 E h w) {β o : Nat} {xs : List V} {h' : Hp} {vs : List Value} (hw : wr h β o xs = some h') (hv : Vals E xs vs) :
    ∃ l, E.mu β = some l ∧ SR w0 E h' (w.setCells l.b (l.base + o) vs) ∧ (storeCells ⟨l.b, l.base + o, none⟩ vs).run P w = .ok () (w.setCells l.b (l.base + o) vs) := by
  obtain ⟨cs, ty, hg, hle, rfl⟩ := wr_spec hw
  obtain ⟨l, hm, hb⟩ := H.live hg
  obtain ⟨hT, hB, hlt, hown, hcs⟩ := hb
  have hcell : ∀ j, j < vs.length → l.own l.b (l.base + o + j) := fun j hj => by
    have := (hcs (o + j) (by rw [hv.1] at hj; omega)).1
    rwa [show l.base + (o + j) = l.base + o + j by omega] at this
  have hsome : ∀ j, j < vs.length → (w.cell? ⟨l.b, l.base + o + j, none⟩).isSome = true := fun j hj => (hown _ _ (hcell j hj)).2.1
  refine ⟨l, hm, ?_, ?_⟩
  · have hout : ∀ b p, ¬ (b = l.b ∧ l.base + o ≤ p ∧ p < l.base + o + vs.length) → (w.setCells l.b (l.base + o) vs).cell? ⟨b, p, none⟩ = w.cell? ⟨b, p, none⟩ := fun b p hn => by
      refine World.cell?_setCells_out _ _ _ _ _ (fun h1 _ => ?_)
      simp only at h1 ⊢
      rcases Nat.lt_or_ge p (l.base + o) with h2 | h2
      · exact .inl h2
      · rcases Nat.lt_or_ge p (l.base + o + vs.length) with h3 | h3
        · exact absurd ⟨h1, h2, h3⟩ hn
        · exact .inr h3
    have hin : ∀ b p, (b = l.b ∧ l.base + o ≤ p ∧ p < l.base + o + vs.length) → l.own b p := fun b p ⟨h1, h2, h3⟩ => by
      have := hcell (p - (l.base + o)) (by omega)
      rwa [show l.base + o + (p - (l.base + o)) = p by omega, ← h1] at this
    have hβ : β < h.length := by have := H.mu_lt hm; rw [H.len]; exact this
    refine ⟨by simp [H.len], H.below.trans (below_setCells _ _ hB _ _ _), fun b p v hf => ?_, fun γ y hy => ?_, fun γ l' hm' => ?_, H.dis, H.dfr, fun b p ho => ⟨by rw [size_setCells]; exact (H.old b p ho).1, (H.old b p ho).2⟩⟩
    · rw [hout b p (fun hc => ?_)]
      · exact H.frz b p v hf
      · have := H.dfr β l b p hm (hin b p hc)
        rw [hf] at this; cases this
    · by_cases hγ : β = γ
      · subst hγ
        rw [List.getElem?_set_self hβ] at hy
        cases hy
        refine ⟨l, hm, hT.mono fun s hs => by rw [shape_setCells]; exact hs, hB, by rw [size_setCells]; exact hlt, fun b p ho => ?_, fun j hj => ?_⟩
        · obtain ⟨rfl, h1, h2⟩ := hown b p ho
          refine ⟨rfl, ?_, by rw [World.frozen?_setCells]; exact h2⟩
          by_cases hc : l.base + o ≤ p ∧ p < l.base + o + vs.length
          · have := World.cell?_setCells_in l.b vs (l.base + o) w hsome (p - (l.base + o)) (by omega)
            rw [show l.base + o + (p - (l.base + o)) = p by omega] at this
            rw [this]; rfl
          · rw [hout l.b p (fun ⟨_, h3, h4⟩ => hc ⟨h3, h4⟩)]; exact h1
        · rw [setAll_length] at hj
          refine ⟨(hcs j hj).1, ?_⟩
          by_cases hc : o ≤ j ∧ j < o + xs.length
          · have hjv : j - o < vs.length := by rw [hv.1]; omega
            have h1 := World.cell?_setCells_in l.b vs (l.base + o) w hsome (j - o) hjv
            rw [show l.base + o + (j - o) = l.base + j by omega] at h1
            have h2 := hv.2 (j - o) vs[j - o] (List.getElem?_eq_getElem hjv)
            refine ⟨_, h1, h2.2 _ ?_, h2.1⟩
            have h3 := setAll_in cs o xs (j - o) (by omega) hle
            rw [show o + (j - o) = j by omega] at h3
            rw [← h3, List.getElem?_eq_getElem]
          · obtain ⟨_, v, h1, h2, h3⟩ := hcs j hj
            refine ⟨v, by rw [hout _ _ (fun ⟨_, h4, h5⟩ => hc ⟨by omega, by rw [hv.1] at h5; omega⟩)]; exact h1, ?_, h3⟩
            have h4 := setAll_out cs o xs j (by omega)
            rw [List.getElem?_eq_getElem (by rw [setAll_length]; exact hj), List.getElem?_eq_getElem hj] at h4
            rw [Option.some.inj h4]; exact h2
      · rw [List.getElem?_set_ne hγ] at hy
        obtain ⟨l', hm', hb'⟩ := H.blk γ y hy
        refine ⟨l', hm', ?_⟩
        cases y with
        | cells cs' ty' =>
          obtain ⟨g0, g1, g2, g3, g4⟩ := hb'
          have hno : ∀ b p, l'.own b p → ¬ (b = l.b ∧ l.base + o ≤ p ∧ p < l.base + o + vs.length) := fun b p ho hc => hγ (H.dis β γ l l' b p hm hm' (hin b p hc) ho)
          refine ⟨g0.mono fun s hs => by rw [shape_setCells]; exact hs, g1, by rw [size_setCells]; exact g2, fun b p ho => ?_, fun j hj => ?_⟩
          · obtain ⟨e, h1, h2⟩ := g3 b p ho
            exact ⟨e, by rw [hout b p (hno b p ho)]; exact h1, by rw [World.frozen?_setCells]; exact h2⟩
          · obtain ⟨h1, v, h2, h3, h4⟩ := g4 j hj
            exact ⟨h1, v, by rw [hout _ _ (hno _ _ h1)]; exact h2, h3, h4⟩
        | map es =>
          obtain ⟨g1, g0, g2, ms, clock, g3, g4⟩ := hb'
          refine ⟨g1, g0, g2, ms, clock, ?_, g4⟩
          cases vs with
          | nil => exact g3
          | cons v0 r0 =>
            rw [heap_setCells _ _ _ _ _ (fun e => ?_)]
            · exact g3
            · rw [e] at g3
              have h2 := hsome 0 (by simp)
              unfold World.cell? at h2
              rw [g3] at h2
              simp at h2
    · by_cases hγ : β = γ
      · subst hγ; exact ⟨_, List.getElem?_set_self hβ⟩
      · rw [List.getElem?_set_ne hγ]; exact H.non γ l' hm'
  · have := run_storeCells_cells (P := P) l.b (l.base + o) vs 0 w (by simpa using hsome) (by simpa using fun j hj => (hown _ _ (hcell j hj)).2.2) (fun v hv' => by
      obtain ⟨j, hj, rfl⟩ := List.getElem_of_mem hv'
      exact (hv.2 j _ (List.getElem?_eq_getElem hj)).1)
    simpa using this
end
end Go.Vs
