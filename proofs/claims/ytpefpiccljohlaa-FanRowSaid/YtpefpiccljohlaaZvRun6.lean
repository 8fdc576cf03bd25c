/- Each instruction, as the machine runs it (6): slicing, conversions, lengths. -/
import Derived.Test.YtpefpiccljohlaaZvRun5
namespace Go.Vs
open Go.RowKit

section
variable {w0 w : World} {E : Env} {h : Hp} {x : X}

/-- A bound of a slice expression. -/
def Bd (_ : World) (_ : Program) (lo : Option Value) (d r : Nat) : Prop := match lo with
  | none => r = d
  | some v => ∃ k, v = .int k r

theorem run_bound {P : Program} {k : IntKind} {r y : Nat} {c : BoundsCode} (hr : r ≤ y) : (Instr.sliceBound (.int k r) y c).run P w = .ok r w := by
  simp only [Instr.sliceBound, Sem.run_bind, run_asIntOf, Result.andThen_ok, Sem.run_ite]
  rw [if_pos ⟨by omega, by omega⟩]
  simp

theorem run_bounds {P : Program} {isSlice : Bool} {len cap l u m : Nat} {lo hi mx : Option Value} (hm : Bd w P mx cap m) (hu : Bd w P hi len u) (hl : Bd w P lo 0 l) (h1 : l ≤ u) (h2 : u ≤ m) (h3 : m ≤ cap) (hx : mx = none → m = cap) (hy : mx ≠ none → hi ≠ none) :
    (Instr.sliceBounds isSlice len cap lo hi mx).run P w = .ok (l, u, m) w := by
  unfold Instr.sliceBounds
  cases mx with
  | none =>
    have hm' := hx rfl
    subst hm'
    cases hi with
    | none =>
      simp only [Bd] at hu
      subst hu
      cases lo with
      | none => simp only [Bd] at hl; subst hl; simp
      | some v => obtain ⟨k, rfl⟩ := hl; simp [run_bound h1]
    | some v =>
      obtain ⟨k, rfl⟩ := hu
      cases lo with
      | none => simp only [Bd] at hl; subst hl; simp [run_bound h2]
      | some v => obtain ⟨k, rfl⟩ := hl; simp [run_bound h1, run_bound h2]
  | some v =>
    obtain ⟨k, rfl⟩ := hm
    cases hi with
    | none => exact absurd rfl (hy (by simp))
    | some v =>
      obtain ⟨k, rfl⟩ := hu
      cases lo with
      | none => simp only [Bd] at hl; subst hl; simp [run_bound h2, run_bound h3]
      | some v => obtain ⟨k, rfl⟩ := hl; simp [run_bound h1, run_bound h2, run_bound h3]

theorem take_drop_str (s : List UInt8) (l u : Nat) : (⟨s.toArray⟩ : ByteArray).extract l u = ⟨((s.take u).drop l).toArray⟩ := by
  rw [Lib.extract_eq]
  congr 1
  simp [List.drop_take]

theorem flat_take_drop {es : Nat} : ∀ (xs : List V) (_ : ∀ x ∈ xs, x.cells.length = es) (l u : Nat), l ≤ u → u ≤ xs.length →
    (flat ((xs.take u).drop l)).length = (u - l) * es ∧ ∀ j, j < (u - l) * es → (flat ((xs.take u).drop l))[j]? = (flat xs)[l * es + j]? := by
  have hlen : ∀ (xs : List V), (∀ x ∈ xs, x.cells.length = es) → (flat xs).length = xs.length * es := by
    intro xs
    induction xs with
    | nil => intro _; simp [flat]
    | cons y r ih =>
      intro hall
      have := ih (fun z hz => hall z (by simp [hz]))
      simp only [flat] at this
      simp only [flat, List.flatMap_cons, List.length_append, hall y (by simp), this, List.length_cons, Nat.succ_mul]
      omega
  have hdrop : ∀ (xs : List V) (l : Nat), (∀ x ∈ xs, x.cells.length = es) → l ≤ xs.length → flat (xs.drop l) = (flat xs).drop (l * es) := by
    intro xs
    induction xs with
    | nil => intro l _ _; simp [flat]
    | cons y r ih =>
      intro l hall hl
      cases l with
      | zero => simp
      | succ l =>
        have := ih l (fun z hz => hall z (by simp [hz])) (by simpa using hl)
        have hy := hall y (by simp)
        simp only [flat] at this ⊢
        rw [List.drop_succ_cons, this, List.flatMap_cons, Nat.succ_mul, Nat.add_comm (l * es) es, ← List.drop_drop, ← hy, List.drop_left]
  have htake : ∀ (xs : List V) (u : Nat), (∀ x ∈ xs, x.cells.length = es) → flat (xs.take u) = (flat xs).take (u * es) := by
    intro xs
    induction xs with
    | nil => intro u _; simp [flat]
    | cons y r ih =>
      intro u hall
      cases u with
      | zero => simp [flat]
      | succ u =>
        have := ih u (fun z hz => hall z (by simp [hz]))
        have hy := hall y (by simp)
        simp only [flat] at this ⊢
        rw [List.take_succ_cons, List.flatMap_cons, this, List.flatMap_cons, Nat.succ_mul, Nat.add_comm (u * es) es, List.take_append, hy]
        congr 1
        · exact (List.take_of_length_le (by omega)).symm
        · congr 1; omega
  intro xs hall l u hlu hu
  have hall' : ∀ x ∈ xs.take u, x.cells.length = es := fun x hx => hall x (List.mem_of_mem_take hx)
  have e1 := hdrop (xs.take u) l hall' (by simp; omega)
  refine ⟨?_, fun j hj => ?_⟩
  · rw [hlen _ (fun x hx => hall' x (List.mem_of_mem_drop hx))]
    simp only [List.length_drop, List.length_take]
    rw [Nat.min_eq_left hu]
  · rw [e1, List.getElem?_drop, htake xs u hall, List.getElem?_take_of_lt (by have : (u - l) * es = u * es - l * es := Nat.sub_mul u l es; omega)]

theorem opt_take {α : Type} (xs : List α) (hi : Option Nat) : upTo hi xs = xs.take (hi.getD xs.length) := by cases hi <;> simp [upTo]

/-- The bounds as the instruction tells them. -/
theorem slc_spec {t : TypeId} {es : Nat} {a v : V} {u : Value} {l : Nat} {hi mx : Option Nat} {lo' hi' mx' : Option Value} (H : SR w0 E h w) (ha : VR E a u) (hv : slcV es a l hi mx = some v)
    (htd : ∃ d, x.P.underlying t = some d ∧ (d = .string ∨ ∃ e, d = .slice e ∧ tSize x.P e = some es))
    (hty : (∃ s, a = .str s) → x.P.underlying t = some .string) (hty' : (¬ ∃ s, a = .str s) → ∃ e, x.P.underlying t = some (.slice e))
    (hl : ∀ d, Bd w x.P lo' d l ∨ (lo' = none ∧ l = 0)) (hh : ∀ d, Bd w x.P hi' d (hi.getD d)) (hm : ∀ d, Bd w x.P mx' d (mx.getD d)) (hn : mx = none ↔ mx' = none) (hn' : hi = none ↔ hi' = none) (hmh : mx ≠ none → hi ≠ none) :
    Does x w0 E w ((do pure (.value (← Instr.sliceAt t u lo' hi' mx')) : Sem Next).run x.P w) (some (.val v h)) := by
  have hl0 : Bd w x.P lo' 0 l := by
    rcases hl 0 with h | ⟨h1, h2⟩
    · exact h
    · subst h1; exact h2
  have hy : mx' ≠ none → hi' ≠ none := fun h1 h2 => hmh (fun e => h1 (hn.1 e)) (hn'.2 h2)
  obtain ⟨d, hd, hdd⟩ := htd
  have hnarr : ∀ (r : Result Next), (∀ n e, d ≠ .array n e) → ((do pure (.value (← Instr.sliceAt t u lo' hi' mx')) : Sem Next).run x.P w) = ((do pure (.value (← Instr.slice t u lo' hi' mx')) : Sem Next).run x.P w) := fun r hne => by
    simp only [Instr.sliceAt, Sem.run_bind, run_underlying hd, Result.andThen_ok]
  rw [hnarr (.ok default w) (fun n e h => by rcases hdd with rfl | ⟨e', rfl, _⟩ <;> cases h)]
  unfold slcV at hv
  split at hv
  · -- a string
    rename_i s
    split at hv
    · rename_i hle
      cases hv
      have hu := hty ⟨s, rfl⟩
      rw [hu] at hd; cases hd
      cases ha
      have hmn : mx' = none := hn.1 rfl
      subst hmn
      have hb := run_bounds (P := x.P) (w := w) (isSlice := false) (len := s.length) (cap := s.length) (mx := none) (m := s.length) rfl (hh _) hl0 hle.1 hle.2 (Nat.le_refl _) (fun _ => rfl) (fun h => absurd rfl h)
      refine Does.same H ?_ (.str _)
      rw [opt_take]
      simp only [Instr.slice, Sem.run_bind, run_underlying hu, Result.andThen_ok]
      have hsz : (⟨s.toArray⟩ : ByteArray).size = s.length := rfl
      simp [hsz, hb, take_drop_str]
    · cases hv
  · -- nil
    split at hv
    · rename_i m hz
      cases hv
      cases ha
      obtain ⟨e, hu⟩ := hty' (fun ⟨s, hs⟩ => by cases hs)
      rw [hu] at hd; cases hd
      rcases hdd with hdd | ⟨e', he, hs⟩
      · cases hdd
      cases he
      have h1 := hh 0; rw [hz.2.1] at h1
      have h2 := hm 0; rw [hz.2.2] at h2
      have hl1 := hl0; rw [hz.1] at hl1
      have hb := run_bounds (P := x.P) (w := w) (isSlice := true) (len := 0) (cap := 0) h2 h1 hl1 (Nat.le_refl _) (Nat.le_refl _) (Nat.le_refl _) (fun _ => rfl) hy
      refine Does.same H ?_ .nsl
      simp only [Instr.slice, Sem.run_bind, run_underlying hu, Result.andThen_ok]
      simp [hb, run_size hs]
    · cases hv
  · -- frozen, no third index
    rename_i ex xs
    split at hv
    · rename_i hle
      cases hv
      obtain ⟨e, hu⟩ := hty' (fun ⟨s, hs⟩ => by cases hs)
      rw [hu] at hd; cases hd
      rcases hdd with hdd | ⟨e', he, hs⟩
      · cases hdd
      cases he
      have hmn : mx' = none := hn.1 rfl
      subst hmn
      cases ha with
      | lst _ _ es' ad b p cap vals hc hex hes hne g1 g2 g3 =>
        have hb := run_bounds (P := x.P) (w := w) (isSlice := true) (len := xs.length) (cap := cap) (mx := none) (m := cap) rfl (hh _) hl0 hle.1 (by omega) (Nat.le_refl _) (fun _ => rfl) (fun h => absurd rfl h)
        generalize hU : hi.getD xs.length = U at *
        have hrun : ((do pure (.value (← Instr.slice t (.slice (some ad) xs.length cap) lo' hi' none)) : Sem Next).run x.P w) = .ok (.value (.slice (some (if cap = l then ad else ad.add (l * es))) (U - l) (cap - l))) w := by
          simp only [Instr.slice, Sem.run_bind, run_underlying hu, Result.andThen_ok]
          simp [hb, run_size hs]
          split <;> rfl
        refine Does.same H hrun ?_
        rw [opt_take, hU]
        obtain ⟨f1, f2⟩ := flat_take_drop xs hle.2.2 l U hle.1 hle.2.1
        have hlen : ((xs.take U).drop l).length = U - l := by simp; omega
        have key := VR.lst (E := E) (ex && U == xs.length) ((xs.take U).drop l) es (if cap = l then ad else ad.add (l * es)) b (p + l * es) (cap - l) (fun j => vals (l * es + j)) (by rw [hlen]; omega)
          (fun hx => by
            simp only [Bool.and_eq_true, beq_iff_eq] at hx
            rw [hlen, hex hx.1, hx.2])
          (fun y hy => hle.2.2 y (List.mem_of_mem_take (List.mem_of_mem_drop hy)))
          (fun hne' => by
            have hUl : l < U := by
              rcases Nat.lt_or_ge l U with h | h
              · exact h
              · exact absurd (List.eq_nil_of_length_eq_zero (by rw [hlen]; omega)) hne'
            rw [if_neg (by omega), hne (fun e => by rw [e] at hle; simp at hle; omega), Addr.add_none])
          (fun j hj => by
            rw [f1] at hj
            rw [Nat.add_assoc]
            refine g1 _ ?_
            have := f2 j hj
            rcases Nat.lt_or_ge (l * es + j) (flat xs).length with h | h
            · exact h
            · rw [List.getElem?_eq_none h, List.getElem?_eq_getElem (by rw [f1]; exact hj)] at this; cases this)
          (fun j hj => by
            have hj' := hj; rw [f1] at hj'
            have := f2 j hj'
            have h2 : l * es + j < (flat xs).length := by
              rcases Nat.lt_or_ge (l * es + j) (flat xs).length with h | h
              · exact h
              · rw [List.getElem?_eq_none h, List.getElem?_eq_getElem hj] at this; cases this
            rw [List.getElem?_eq_getElem hj, List.getElem?_eq_getElem h2] at this
            rw [Option.some.inj this]; exact g2 _ h2)
          (fun j hj => by
            rw [f1] at hj
            refine g3 _ ?_
            have := f2 j hj
            rcases Nat.lt_or_ge (l * es + j) (flat xs).length with h | h
            · exact h
            · rw [List.getElem?_eq_none h, List.getElem?_eq_getElem (by rw [f1]; exact hj)] at this; cases this)
        rw [hlen] at key
        exact key
    · cases hv
  · -- frozen, with a third index
    rename_i ex xs m
    split at hv
    · rename_i hle
      cases hv
      obtain ⟨e, hu⟩ := hty' (fun ⟨s, hs⟩ => by cases hs)
      rw [hu] at hd; cases hd
      rcases hdd with hdd | ⟨e', he, hs⟩
      · cases hdd
      cases he
      cases ha with
      | lst _ _ es' ad b p cap vals hc hex hes hne g1 g2 g3 =>
        have hb := run_bounds (P := x.P) (w := w) (isSlice := true) (len := xs.length) (cap := cap) (hm cap) (hh _) hl0 hle.1 hle.2.1 (by simp only [Option.getD_some]; omega) (fun h => by have := hn.2 h; cases this) hy
        simp only [Option.getD_some] at hb
        generalize hU : hi.getD xs.length = U at *
        have hrun : ((do pure (.value (← Instr.slice t (.slice (some ad) xs.length cap) lo' hi' mx')) : Sem Next).run x.P w) = .ok (.value (.slice (some (if m = l then ad else ad.add (l * es))) (U - l) (m - l))) w := by
          simp only [Instr.slice, Sem.run_bind, run_underlying hu, Result.andThen_ok]
          simp [hb, run_size hs]
          split <;> rfl
        refine Does.same H hrun ?_
        rw [opt_take, hU]
        obtain ⟨f1, f2⟩ := flat_take_drop xs hle.2.2.2 l U hle.1 (by omega)
        have hlen : ((xs.take U).drop l).length = U - l := by simp; omega
        have hlt : ∀ j, j < (U - l) * es → l * es + j < (flat xs).length := fun j hj => by
          have := f2 j hj
          rcases Nat.lt_or_ge (l * es + j) (flat xs).length with h | h
          · exact h
          · rw [List.getElem?_eq_none h, List.getElem?_eq_getElem (by rw [f1]; exact hj)] at this; cases this
        have key := VR.lst (E := E) (U == m) ((xs.take U).drop l) es (if m = l then ad else ad.add (l * es)) b (p + l * es) (m - l) (fun j => vals (l * es + j)) (by rw [hlen]; omega)
          (fun hx => by
            simp only [beq_iff_eq] at hx
            rw [hlen, hx])
          (fun y hy => hle.2.2.2 y (List.mem_of_mem_take (List.mem_of_mem_drop hy)))
          (fun hne' => by
            have hUl : l < U := by
              rcases Nat.lt_or_ge l U with h | h
              · exact h
              · exact absurd (List.eq_nil_of_length_eq_zero (by rw [hlen]; omega)) hne'
            rw [if_neg (by omega), hne (fun e => by rw [e] at hle; simp at hle; omega), Addr.add_none])
          (fun j hj => by
            rw [f1] at hj
            rw [Nat.add_assoc]
            exact g1 _ (hlt j hj))
          (fun j hj => by
            have hj' := hj; rw [f1] at hj'
            have := f2 j hj'
            rw [List.getElem?_eq_getElem hj, List.getElem?_eq_getElem (hlt j hj')] at this
            rw [Option.some.inj this]; exact g2 _ (hlt j hj'))
          (fun j hj => by
            rw [f1] at hj
            exact g3 _ (hlt j hj))
        rw [hlen] at key
        exact key
    · cases hv
  · -- live, no third index
    rename_i b off len cap ex es' ag
    split at hv
    · rename_i hle
      obtain ⟨rfl, hle⟩ := hle
      cases hv
      obtain ⟨e, hu⟩ := hty' (fun ⟨s, hs⟩ => by cases hs)
      rw [hu] at hd; cases hd
      rcases hdd with hdd | ⟨e', he, hs⟩
      · cases hdd
      cases he
      have hmn : mx' = none := hn.1 rfl
      subst hmn
      cases ha with
      | sl _ _ _ _ _ _ _ ad cap' hnn hll hcap hex hh' =>
        have hb := run_bounds (P := x.P) (w := w) (isSlice := true) (len := len) (cap := cap') (mx := none) (m := cap') rfl (hh _) hl0 hle.1 (by omega) (Nat.le_refl _) (fun _ => rfl) (fun h => absurd rfl h)
        generalize hU : hi.getD len = U at *
        have hrun : ((do pure (.value (← Instr.slice t (.slice (some ad) len cap') lo' hi' none)) : Sem Next).run x.P w) = .ok (.value (.slice (some (if cap' = l then ad else ad.add (l * es'))) (U - l) (cap' - l))) w := by
          simp only [Instr.slice, Sem.run_bind, run_underlying hu, Result.andThen_ok]
          simp [hb, run_size hs]
          split <;> rfl
        refine Does.same H hrun (.sl _ _ _ _ _ _ _ _ _ hnn (by omega) (by omega) (fun hx => by rw [hex hx]) fun lc hlc => ?_)
        obtain ⟨q1, q2⟩ := hh' lc hlc
        refine ⟨?_, fun j hj => ?_⟩
        · by_cases hcl : cap' = l
          · left; omega
          · right
            rw [if_neg hcl]
            rcases q1 with q1 | q1
            · omega
            · rw [q1, Addr.add_none]; congr 1; omega
        · have := q2 (l * es' + j) (by rw [Nat.sub_mul] at hj; omega)
          rwa [show lc.base + off + (l * es' + j) = lc.base + (off + l * es') + j by omega] at this
    · cases hv
  · -- live, with a third index
    rename_i b off len cap ex es' ag m
    split at hv
    · rename_i hle
      obtain ⟨rfl, hle⟩ := hle
      cases hv
      obtain ⟨e, hu⟩ := hty' (fun ⟨s, hs⟩ => by cases hs)
      rw [hu] at hd; cases hd
      rcases hdd with hdd | ⟨e', he, hs⟩
      · cases hdd
      cases he
      cases ha with
      | sl _ _ _ _ _ _ _ ad cap' hnn hll hcap hex hh' =>
        have hb := run_bounds (P := x.P) (w := w) (isSlice := true) (len := len) (cap := cap') (hm cap') (hh _) hl0 hle.1 hle.2.1 (by simp only [Option.getD_some]; omega) (fun h => by have := hn.2 h; cases this) hy
        simp only [Option.getD_some] at hb
        generalize hU : hi.getD len = U at *
        have hrun : ((do pure (.value (← Instr.slice t (.slice (some ad) len cap') lo' hi' mx')) : Sem Next).run x.P w) = .ok (.value (.slice (some (if m = l then ad else ad.add (l * es'))) (U - l) (m - l))) w := by
          simp only [Instr.slice, Sem.run_bind, run_underlying hu, Result.andThen_ok]
          simp [hb, run_size hs]
          split <;> rfl
        refine Does.same H hrun (.sl _ _ _ _ _ _ _ _ _ hnn (by omega) (by omega) (fun hx => rfl) fun lc hlc => ?_)
        obtain ⟨q1, q2⟩ := hh' lc hlc
        refine ⟨?_, fun j hj => ?_⟩
        · by_cases hcl : m = l
          · left; omega
          · right
            rw [if_neg hcl]
            rcases q1 with q1 | q1
            · omega
            · rw [q1, Addr.add_none]; congr 1; omega
        · have h5 : (m - l) * es' ≤ cap' * es' - l * es' := by rw [← Nat.sub_mul]; exact Nat.mul_le_mul_right _ (by omega)
          have := q2 (l * es' + j) (by omega)
          rwa [show lc.base + off + (l * es' + j) = lc.base + (off + l * es') + j by omega] at this
    · cases hv
  · cases hv
end
end Go.Vs
