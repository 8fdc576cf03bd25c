/- Each instruction, as the machine runs it (5): conversions, addresses, parts, slicing. -/
import Derived.Test.YtpefpiccljohlaaZvRun4
namespace Go.Vs
open Go.RowKit

section
variable {w0 w : World} {E : Env} {h : Hp} {x : X}

theorem run_asIntOf {P : Program} (k : IntKind) (n : Int) : (asIntOf (.int k n)).run P w = .ok (k, n) w := rfl

theorem does_fad {s : TypeId} {fs : Array Field} {f : Nat} {fd : Field} {n off : Nat} {a v : V} {u : Value} (H : SR w0 E h w) (hu : x.P.underlying s = some (.struct fs)) (hf : fs[f]? = some fd) (ho : fd.offset = off)
    (hs : tSize x.P fd.type = some n) (hn : n ≠ 0) (ha : VR E a u) (hv : (∃ b o, a = .ptr b o ∧ v = .ptr b (o + off)) ∨ (∃ cs o, a = .fp cs o ∧ v = .fp cs (o + off))) :
    Does x w0 E w ((do pure (.value (← Instr.fieldAt s u f)) : Sem Next).run x.P w) (some (.val v h)) := by
  have hrun : ∀ ad : Addr, (Instr.fieldAt s (.pointer (some ad)) f).run x.P w = .ok (.pointer (some (ad.add off))) w := fun ad => by
    simp only [Instr.fieldAt, Sem.run_bind, run_underlying hu, Result.andThen_ok, hf, Instr.sureAddr, Sem.run_pure, fieldPlace, run_size hs, Sem.run_ite, if_neg hn, ho]
  rcases hv with ⟨b, o, rfl, rfl⟩ | ⟨cs, o, rfl, rfl⟩
  · cases ha with
    | ptr _ _ ad hn' had =>
      exact Does.same H (by simp only [Sem.run_bind, hrun, Result.andThen_ok]; rfl) (.ptr b (o + off) _ hn' fun l hl => by rw [had l hl, Addr.add_none]; congr 1; omega)
  · cases ha with
    | fp _ _ b p vals h1 h2 h3 =>
      refine Does.same H (by simp only [Sem.run_bind, hrun, Result.andThen_ok]; rfl) ?_
      rw [Addr.add_none, show p + o + off = p + (o + off) by omega]
      exact .fp cs (o + off) b p vals h1 h2 h3

theorem Vals.asV {l : List V} {vs : List Value} {ag : Bool} {v : V} (hv : Vals E l vs) (h : asV ag l = some v) : (ag = true → VR E v (.agg vs.toArray)) ∧ (ag = false → ∃ u, vs = [u] ∧ VR E v u) := by
  rcases asV_spec h with ⟨rfl, rfl⟩ | ⟨rfl, rfl⟩
  · exact ⟨fun _ => hv.agg, fun h => by cases h⟩
  · refine ⟨(fun h => by cases h), fun _ => ?_⟩
    match vs, hv with
    | [u], hv => exact ⟨u, rfl, (hv.2 0 u rfl).2 v rfl⟩
    | [], hv => have := hv.1; simp at this
    | _ :: _ :: _, hv => have := hv.1; simp at this

/-- A part of an aggregate. -/
theorem part_spec {t : TypeId} {n off : Nat} {ag : Bool} {cs l : List V} {v : V} {us : Array Value} (hs : tSize x.P t = some n) (ha : tAg x.P t = some ag) (hc : Vals E cs us.toList) (hl : sub cs off n = some l) (hv : asV ag l = some v) :
    ∃ u, (part t us off).run x.P w = .ok u w ∧ VR E v u := by
  obtain ⟨hle, hln, hget⟩ := sub_spec hl
  have hsub := hc.slice off n
  have hll : (cs.drop off).take n = l := by unfold sub at hl; rw [if_pos hle] at hl; exact Option.some.inj hl
  rw [hll] at hsub
  obtain ⟨v1, v2⟩ := hsub.asV hv
  cases ag with
  | true =>
    refine ⟨.agg (us.extract off (off + n)), by simp [part, run_isAgg ha, run_size hs], ?_⟩
    have := v1 rfl
    have he : us.extract off (off + n) = ((us.toList.drop off).take n).toArray := by
      rw [← Array.toArray_toList (xs := us.extract off (off + n))]
      congr 1
      simp [Array.toList_extract, List.extract]
    rw [he]; exact this
  | false =>
    obtain ⟨u, hu, hvr⟩ := v2 rfl
    have h0 : us[off]? = some u := by
      have : ((us.toList.drop off).take n)[0]? = some u := by rw [hu]; rfl
      have hn : 0 < n := by
        rcases Nat.eq_zero_or_pos n with h0 | h0
        · subst h0; simp at hu
        · exact h0
      rw [List.getElem?_take_of_lt hn, List.getElem?_drop] at this
      simpa using this
    exact ⟨u, by simp [part, run_isAgg ha, h0], hvr⟩

theorem does_fld {s : TypeId} {fs : Array Field} {f : Nat} {fd : Field} {n off : Nat} {ag : Bool} {cs l : List V} {v : V} {u : Value} (H : SR w0 E h w) (hu : x.P.underlying s = some (.struct fs)) (hf : fs[f]? = some fd) (ho : fd.offset = off)
    (hs : tSize x.P fd.type = some n) (hag : tAg x.P fd.type = some ag) (ha : VR E (.agg cs) u) (hl : sub cs off n = some l) (hv : asV ag l = some v) :
    Does x w0 E w ((do pure (.value (← Instr.field s u f)) : Sem Next).run x.P w) (some (.val v h)) := by
  have hvals := ha.agg_vals
  cases ha with
  | agg _ us _ _ _ =>
    have hvals : Vals E cs us.toList := hvals
    obtain ⟨r, hr, hvr⟩ := part_spec (w := w) hs hag hvals hl hv
    exact Does.same H (by simp only [Instr.field, Sem.run_bind, run_underlying hu, Result.andThen_ok, hf, asAgg, Sem.run_pure, ho]; simp [hr]) hvr

theorem does_idxa {t e : TypeId} {len es : Nat} {ag : Bool} {cs l : List V} {v : V} {u : Value} {k : IntKind} {i : Int} (H : SR w0 E h w) (hu : x.P.underlying t = some (.array len e)) (hs : tSize x.P e = some es) (hag : tAg x.P e = some ag)
    (ha : VR E (.agg cs) u) (hi : 0 ≤ i ∧ i < len) (hl : sub cs (i.toNat * es) es = some l) (hv : asV ag l = some v) :
    Does x w0 E w ((do pure (.value (← Instr.index t u (.int k i))) : Sem Next).run x.P w) (some (.val v h)) := by
  have hvals := ha.agg_vals
  cases ha with
  | agg _ us _ _ _ =>
    have hvals : Vals E cs us.toList := hvals
    obtain ⟨r, hr, hvr⟩ := part_spec (w := w) hs hag hvals hl hv
    exact Does.same H (by simp only [Instr.index, Sem.run_bind, run_asIntOf, run_underlying hu, Result.andThen_ok, Sem.run_ite, if_pos hi, run_size hs]; simp [hr]) hvr

theorem does_idxs {t : TypeId} {s : List UInt8} {u : Value} {k : IntKind} {i : Int} (H : SR w0 E h w) (hu : x.P.underlying t = some .string) (ha : VR E (.str s) u) (hi : 0 ≤ i ∧ i < s.length) :
    Does x w0 E w ((do pure (.value (← Instr.index t u (.int k i))) : Sem Next).run x.P w) (some (.val (.int .u8 (s.getD i.toNat 0).toNat) h)) := by
  cases ha
  refine Does.same H ?_ (.int _ _)
  have hlt : i.toNat < s.length := by omega
  have : (⟨s.toArray⟩ : ByteArray)[i.toNat]? = some (s.getD i.toNat 0) := by
    have h2 : i.toNat < (⟨s.toArray⟩ : ByteArray).size := hlt
    rw [getElem?_pos (⟨s.toArray⟩ : ByteArray) i.toNat h2]
    simp only [List.getD, List.getElem?_eq_getElem hlt, Option.getD_some]
    rfl
  simp only [Instr.index, Sem.run_bind, run_asIntOf, run_underlying hu, Result.andThen_ok, if_pos hi.1, this]
  rfl

theorem does_iad {t e : TypeId} {es : Nat} {a v : V} {u : Value} {k : IntKind} {i : Int} (H : SR w0 E h w) (hu : x.P.underlying t = some (.slice e)) (hs : tSize x.P e = some es) (ha : VR E a u)
    (hv : (∃ b off len cap ex ag, a = .sl b off len cap ex es ag ∧ 0 ≤ i ∧ i < len ∧ v = .ptr b (off + i.toNat * es)) ∨
      (∃ ex xs, a = .lst ex xs ∧ 0 ≤ i ∧ i < xs.length ∧ (xs.getD i.toNat .nptr).cells.length = es ∧ v = .fp (xs.getD i.toNat .nptr).cells 0)) :
    Does x w0 E w ((do pure (.value (← Instr.indexAt t u (.int k i))) : Sem Next).run x.P w) (some (.val v h)) := by
  have hrun : ∀ (ad : Addr) (len cap : Nat), 0 ≤ i ∧ i < len → (Instr.indexAt t (.slice (some ad) len cap) (.int k i)).run x.P w = .ok (.pointer (some (ad.add (i.toNat * es)))) w := fun ad len cap hi => by
    simp only [Instr.indexAt, Sem.run_bind, run_asIntOf, run_underlying hu, Result.andThen_ok, Sem.run_pure, Sem.run_ite, if_pos hi, run_size hs]
  rcases hv with ⟨b, off, len, cap, ex, ag, rfl, h0, h1, rfl⟩ | ⟨ex, xs, rfl, h0, h1, hc, rfl⟩
  · cases ha with
    | sl _ _ _ _ _ _ _ ad cap' hn hl hcap hex hh =>
      refine Does.same H (by simp only [Sem.run_bind, hrun ad len cap' ⟨h0, h1⟩, Result.andThen_ok]; rfl) (.ptr b _ _ hn fun l hl' => ?_)
      obtain ⟨h2, _⟩ := hh l hl'
      rcases h2 with h2 | h2
      · omega
      · rw [h2, Addr.add_none]; congr 1; omega
  · cases ha with
    | lst _ _ es' ad b p cap vals hcap hex hes hne g1 g2 g3 =>
      have hlt : i.toNat < xs.length := by omega
      have hx : xs.getD i.toNat .nptr = xs[i.toNat] := by simp [List.getD, List.getElem?_eq_getElem hlt]
      rw [hx] at hc ⊢
      have hee : es' = es := by rw [← hes _ (List.getElem_mem hlt)]; exact hc
      subst hee
      have had := hne (by intro e; rw [e] at hlt; simp at hlt)
      refine Does.same H (by simp only [Sem.run_bind, hrun ad xs.length cap ⟨h0, h1⟩, Result.andThen_ok]; rfl) ?_
      rw [had, Addr.add_none]
      have hflat : ∀ j, j < es' → i.toNat * es' + j < (flat xs).length ∧ (flat xs)[i.toNat * es' + j]? = xs[i.toNat].cells[j]? := by
        have key : ∀ (xs : List V) (i : Nat) (hi : i < xs.length), (∀ x ∈ xs, x.cells.length = es') → ∀ j, j < es' → i * es' + j < (flat xs).length ∧ (flat xs)[i * es' + j]? = xs[i].cells[j]? := by
          intro xs
          induction xs with
          | nil => intro i hi; simp at hi
          | cons y r ih =>
            intro i hi hall j hj
            have hy := hall y (by simp)
            cases i with
            | zero => simp [flat, hy]; exact ⟨by omega, by rw [List.getElem?_append_left (by omega)]⟩
            | succ i =>
              have := ih i (by simpa using hi) (fun z hz => hall z (by simp [hz])) j hj
              simp only [flat, List.flatMap_cons, List.length_append, hy, List.getElem_cons_succ]
              refine ⟨by have := this.1; simp only [flat] at this; rw [Nat.succ_mul]; omega, ?_⟩
              rw [List.getElem?_append_right (by rw [Nat.succ_mul]; omega), ← this.2]
              congr 1
              rw [Nat.succ_mul]; omega
        exact key xs i.toNat hlt hes
      rw [show p + i.toNat * es' = p + i.toNat * es' + 0 by omega]
      refine .fp _ 0 b (p + i.toNat * es') (fun j => vals (i.toNat * es' + j)) (fun j hj => ?_) (fun j hj => ?_) (fun j hj => ?_)
      · rw [Nat.add_assoc]; exact g1 _ (hflat j (by omega)).1
      · obtain ⟨f1, f2⟩ := hflat j (by omega)
        have := g2 _ f1
        rw [List.getElem?_eq_getElem f1, List.getElem?_eq_getElem hj] at f2
        rw [← Option.some.inj f2]; exact this
      · exact g3 _ (hflat j (by omega)).1

theorem does_iada {t e : TypeId} {len es : Nat} {a v : V} {u : Value} {k : IntKind} {i : Int} (H : SR w0 E h w) (hu : x.P.underlying t = some (.array len e)) (hs : tSize x.P e = some es) (ha : VR E a u) (hi : 0 ≤ i ∧ i < len)
    (hv : (∃ b o, a = .ptr b o ∧ v = .ptr b (o + i.toNat * es)) ∨ (∃ cs o, a = .fp cs o ∧ v = .fp cs (o + i.toNat * es))) :
    Does x w0 E w ((do pure (.value (← Instr.indexAt t u (.int k i))) : Sem Next).run x.P w) (some (.val v h)) := by
  have hrun : ∀ (ad : Addr), (Instr.indexAt t (.pointer (some ad)) (.int k i)).run x.P w = .ok (.pointer (some (ad.add (i.toNat * es)))) w := fun ad => by
    simp only [Instr.indexAt, Sem.run_bind, run_asIntOf, run_underlying hu, Result.andThen_ok, Instr.sureAddr, Sem.run_pure, Sem.run_ite, if_pos hi, run_size hs]
  rcases hv with ⟨b, o, rfl, rfl⟩ | ⟨cs, o, rfl, rfl⟩
  · cases ha with
    | ptr _ _ ad hn' had =>
      exact Does.same H (by simp only [Sem.run_bind, hrun, Result.andThen_ok]; rfl) (.ptr b _ _ hn' fun l hl => by rw [had l hl, Addr.add_none]; congr 1; omega)
  · cases ha with
    | fp _ _ b p vals h1 h2 h3 =>
      refine Does.same H (by simp only [Sem.run_bind, hrun, Result.andThen_ok]; rfl) ?_
      rw [Addr.add_none, show p + o + i.toNat * es = p + (o + i.toNat * es) by omega]
      exact .fp cs _ b p vals h1 h2 h3
end
end Go.Vs
