/- Each instruction, as the machine runs it (5): conversions, addresses, parts, slicing. -/
import Derived.Test.YtfinnljkcgglfaaDoorZv0
set_option linter.unusedSimpArgs false
set_option linter.unusedVariables false
namespace Go.Vs
open Go.RowKit

section
variable {w0 w : World} {E : Env} {h : Hp} {x : X}

theorem run_asIntOf {P : Program} (k : IntKind) (n : Int) : (asIntOf (.int k n)).run P w = .ok (k, n) w := rfl

theorem does_fad {s : TypeId} {fs : Array Field} {f : Nat} {fd : Field} {n off : Nat} {a v : V} {u : Value} (H : SR w0 E h w) (hu : x.P.underlying s = some (.struct fs)) (hf : fs[f]? = some fd) (ho : fd.offset = off)
    (hs : tSize x.P fd.type = some n) (hn : n ≠ 0) (ha : VR E a u) (hv : (∃ b o, a = .ptr b o ∧ v = .ptr b (o + off)) ∨ (∃ cs o, a = .fp cs o ∧ v = .fp cs (o + off))) :
    Does x w0 E w ((do pure (.value (← Instr.fieldAt s u f)) : Sem Next).run x.P w) (some (.val v h)) := by
  have hrun : ∀ ad : Addr, (Instr.fieldAt s (.pointer (some ad)) f).run x.P w = .ok (.pointer (some (ad.add off))) w := fun ad => by
    simp only [Instr.fieldAt, Sem.run_bind, run_underlying hu, Result.andThen_ok, hf, Instr.sureAddr, Sem.run_pure, fieldPlace, run_size hs, Sem.run_ite, if_neg hn, ho]
  rcases hv with ⟨b, o, rfl, rfl⟩ | ⟨cs, o, rfl, rfl⟩
  · cases ha with
    | ptr _ _ ad hn' had =>
      exact Does.same H (by simp only [Sem.run_bind, hrun, Result.andThen_ok]; rfl) (.ptr b (o + off) _ hn' fun l hl => by rw [had l hl, Addr.add_none]; congr 1; omega)
  · cases ha with
    | fp _ _ b p vals h1 h2 h3 =>
      refine Does.same H (by simp only [Sem.run_bind, hrun, Result.andThen_ok]; rfl) ?_
      rw [Addr.add_none, show p + o + off = p + (o + off) by omega]
      exact .fp cs (o + off) b p vals h1 h2 h3

theorem Vals.asV {l : List V} {vs : List Value} {ag : Bool} {v : V} (hv : Vals E l vs) (h : asV ag l = some v) : (ag = true → VR E v (.agg vs.toArray)) ∧ (ag = false → ∃ u, vs = [u] ∧ VR E v u) := by
  rcases asV_spec h with ⟨rfl, rfl⟩ | ⟨rfl, rfl⟩
  · exact ⟨fun _ => hv.agg, fun h => by cases h⟩
  · refine ⟨(fun h => by cases h), fun _ => ?_⟩
    match vs, hv with
    | [u], hv => exact ⟨u, rfl, (hv.2 0 u rfl).2 v rfl⟩
    | [], hv => have := hv.1; simp at this
    | _ :: _ :: _, hv => have := hv.1; simp at this

/-- A part of an aggregate. -/
theorem part_spec {t : TypeId} {n off : Nat} {ag : Bool} {cs l : List V} {v : V} {us : Array Value} (hs : tSize x.P t = some n) (ha : tAg x.P t = some ag) (hc : Vals E cs us.toList) (hl : sub cs off n = some l) (hv : asV ag l = some v) :
    ∃ u, (part t us off).run x.P w = .ok u w ∧ VR E v u := by
  obtain ⟨hle, hln, hget⟩ := sub_spec hl
  have hsub := hc.slice off n
  have hll : (cs.drop off).take n = l := by unfold sub at hl; rw [if_pos hle] at hl; exact Option.some.inj hl
  rw [hll] at hsub
  obtain ⟨v1, v2⟩ := hsub.asV hv
  cases ag with
  | true =>
    refine ⟨.agg (us.extract off (off + n)), by simp [part, run_isAgg ha, run_size hs], ?_⟩
    have := v1 rfl
    have he : us.extract off (off + n) = ((us.toList.drop off).take n).toArray := by
      rw [← Array.toArray_toList (xs := us.extract off (off + n))]
      congr 1
      simp [Array.toList_extract, List.extract]
    rw [he]; exact this
  | false =>
    obtain ⟨u, hu, hvr⟩ := v2 rfl
    have h0 : us[off]? = some u := by
      have : ((us.toList.drop off).take n)[0]? = some u := by rw [hu]; rfl
      have hn : 0 < n := by
        rcases Nat.eq_zero_or_pos n with h0 | h0
        · subst h0; simp at hu
        · exact h0
      rw [List.getElem?_take_of_lt hn, List.getElem?_drop] at this
      simpa using this
    exact ⟨u, by simp [part, run_isAgg ha, h0], hvr⟩

theorem does_fld {s : TypeId} {fs : Array Field} {f : Nat} {fd : Field} {n off : Nat} {ag : Bool} {cs l : List V} {v : V} {u : Value} (H : SR w0 E h w) (hu : x.P.underlying s = some (.struct fs)) (hf : fs[f]? = some fd) (ho : fd.offset = off)
    (hs : tSize x.P fd.type = some n) (hag : tAg x.P fd.type = some ag) (ha : VR E (.agg cs) u) (hl : sub cs off n = some l) (hv : asV ag l = some v) :
    Does x w0 E w ((do pure (.value (← Instr.field s u f)) : Sem Next).run x.P w) (some (.val v h)) := by
  have hvals := ha.agg_vals
  cases ha with
  | agg _ us _ _ _ =>
    have hvals : Vals E cs us.toList := hvals
    obtain ⟨r, hr, hvr⟩ := part_spec (w := w) hs hag hvals hl hv
    exact Does.same H (by simp only [Instr.field, Sem.run_bind, run_underlying hu, Result.andThen_ok, hf, asAgg, Sem.run_pure, ho]; simp [hr]) hvr

theorem does_idxa {t e : TypeId} {len es : Nat} {ag : Bool} {cs l : List V} {v : V} {u : Value} {k : IntKind} {i : Int} (H : SR w0 E h w) (hu : x.P.underlying t = some (.array len e)) (hs : tSize x.P e = some es) (hag : tAg x.P e = some ag)
    (ha : VR E (.agg cs) u) (hi : 0 ≤ i ∧ i < len) (hl : sub cs (i.toNat * es) es = some l) (hv : asV ag l = some v) :
    Does x w0 E w ((do pure (.value (← Instr.index t u (.int k i))) : Sem Next).run x.P w) (some (.val v h)) := by
  have hvals := ha.agg_vals
  cases ha with
  | agg _ us _ _ _ =>
    have hvals : Vals E cs us.toList := hvals
    obtain ⟨r, hr, hvr⟩ := part_spec (w := w) hs hag hvals hl hv
    exact Does.same H (by simp only [Instr.index, Sem.run_bind, run_asIntOf, run_underlying hu, Result.andThen_ok, Sem.run_ite, if_pos hi, run_size hs]; simp [hr]) hvr

theorem does_idxs {t : TypeId} {s : List UInt8} {u : Value} {k : IntKind} {i : Int} (H : SR w0 E h w) (hu : x.P.underlying t = some .string) (ha : VR E (.str s) u) (hi : 0 ≤ i ∧ i < s.length) :
    Does x w0 E w ((do pure (.value (← Instr.index t u (.int k i))) : Sem Next).run x.P w) (some (.val (.int .u8 (s.getD i.toNat 0).toNat) h)) := by
  cases ha
  refine Does.same H ?_ (.int _ _)
  have hlt : i.toNat < s.length := by omega
  have : (⟨s.toArray⟩ : ByteArray)[i.toNat]? = some (s.getD i.toNat 0) := by
    have h2 : i.toNat < (⟨s.toArray⟩ : ByteArray).size := hlt
    rw [getElem?_pos (⟨s.toArray⟩ : ByteArray) i.toNat h2]
    simp only [List.getD, List.getElem?_eq_getElem hlt, Option.getD_some]
    rfl
  simp only [Instr.index, Sem.run_bind, run_asIntOf, run_underlying hu, Result.andThen_ok, if_pos hi.1, this]
  rfl

theorem does_iad {t e : TypeId} {es : Nat} {a v : V} {u : Value} {k : IntKind} {i : Int} (H : SR w0 E h w) (hu : x.P.underlying t = some (.slice e)) (hs : tSize x.P e = some es) (ha : VR E a u)
    (hv : (∃ b off len cap ex ag, a = .sl b off len cap ex es ag ∧ 0 ≤ i ∧ i < len ∧ v = .ptr b (off + i.toNat * es)) ∨
      (∃ ex xs, a = .lst ex xs ∧ 0 ≤ i ∧ i < xs.length ∧ (xs.getD i.toNat .nptr).cells.length = es ∧ v = .fp (xs.getD i.toNat .nptr).cells 0)) :
    Does x w0 E w ((do pure (.value (← Instr.indexAt t u (.int k i))) : Sem Next).run x.P w) (some (.val v h)) := by
  have hrun : ∀ (ad : Addr) (len cap : Nat), 0 ≤ i ∧ i < len → (Instr.indexAt t (.slice (some ad) len cap) (.int k i)).run x.P w = .ok (.pointer (some (ad.add (i.toNat * es)))) w := fun ad len cap hi => by
    simp only [Instr.indexAt, Sem.run_bind, run_asIntOf, run_underlying hu, Result.andThen_ok, Sem.run_pure, Sem.run_ite, if_pos hi, run_size hs]
  rcases hv with ⟨b, off, len, cap, ex, ag, rfl, h0, h1, rfl⟩ | ⟨ex, xs, rfl, h0, h1, hc, rfl⟩
  · cases ha with
    | sl _ _ _ _ _ _ _ ad cap' hn hl hcap hex hh =>
      refine Does.same H (by simp only [Sem.run_bind, hrun ad len cap' ⟨h0, h1⟩, Result.andThen_ok]; rfl) (.ptr b _ _ hn fun l hl' => ?_)
      obtain ⟨h2, _⟩ := hh l hl'
      rcases h2 with h2 | h2
      · omega
      · rw [h2, Addr.add_none]; congr 1; omega
  · cases ha with
    | lst _ _ es' ad b p cap vals hcap hex hes hne g1 g2 g3 =>
      have hlt : i.toNat < xs.length := by omega
      have hx : xs.getD i.toNat .nptr = xs[i.toNat] := by simp [List.getD, List.getElem?_eq_getElem hlt]
      rw [hx] at hc ⊢
      have hee : es' = es := by rw [← hes _ (List.getElem_mem hlt)]; exact hc
      subst hee
      have had := hne (by intro e; rw [e] at hlt; simp at hlt)
      refine Does.same H (by simp only [Sem.run_bind, hrun ad xs.length cap ⟨h0, h1⟩, Result.andThen_ok]; rfl) ?_
      rw [had, Addr.add_none]
      have hflat : ∀ j, j < es' → i.toNat * es' + j < (flat xs).length ∧ (flat xs)[i.toNat * es' + j]? = xs[i.toNat].cells[j]? := by
        have key : ∀ (xs : List V) (i : Nat) (hi : i < xs.length), (∀ x ∈ xs, x.cells.length = es') → ∀ j, j < es' → i * es' + j < (flat xs).length ∧ (flat xs)[i * es' + j]? = xs[i].cells[j]? := by
          intro xs
          induction xs with
          | nil => intro i hi; simp at hi
          | cons y r ih =>
            intro i hi hall j hj
            have hy := hall y (by simp)
            cases i with
            | zero => simp [flat, hy]; exact ⟨by omega, by rw [List.getElem?_append_left (by omega)]⟩
            | succ i =>
              have := ih i (by simpa using hi) (fun z hz => hall z (by simp [hz])) j hj
              simp only [flat, List.flatMap_cons, List.length_append, hy, List.getElem_cons_succ]
              refine ⟨by have := this.1; simp only [flat] at this; rw [Nat.succ_mul]; omega, ?_⟩
              rw [List.getElem?_append_right (by rw [Nat.succ_mul]; omega), ← this.2]
              congr 1
              rw [Nat.succ_mul]; omega
        exact key xs i.toNat hlt hes
      rw [show p + i.toNat * es' = p + i.toNat * es' + 0 by omega]
      refine .fp _ 0 b (p + i.toNat * es') (fun j => vals (i.toNat * es' + j)) (fun j hj => ?_) (fun j hj => ?_) (fun j hj => ?_)
      · rw [Nat.add_assoc]; exact g1 _ (hflat j (by omega)).1
      · obtain ⟨f1, f2⟩ := hflat j (by omega)
        have := g2 _ f1
        rw [List.getElem?_eq_getElem f1, List.getElem?_eq_getElem hj] at f2
        rw [← Option.some.inj f2]; exact this
      · exact g3 _ (hflat j (by omega)).1

theorem does_iada {t e : TypeId} {len es : Nat} {a v : V} {u : Value} {k : IntKind} {i : Int} (H : SR w0 E h w) (hu : x.P.underlying t = some (.array len e)) (hs : tSize x.P e = some es) (ha : VR E a u) (hi : 0 ≤ i ∧ i < len)
    (hv : (∃ b o, a = .ptr b o ∧ v = .ptr b (o + i.toNat * es)) ∨ (∃ cs o, a = .fp cs o ∧ v = .fp cs (o + i.toNat * es))) :
    Does x w0 E w ((do pure (.value (← Instr.indexAt t u (.int k i))) : Sem Next).run x.P w) (some (.val v h)) := by
  have hrun : ∀ (ad : Addr), (Instr.indexAt t (.pointer (some ad)) (.int k i)).run x.P w = .ok (.pointer (some (ad.add (i.toNat * es)))) w := fun ad => by
    simp only [Instr.indexAt, Sem.run_bind, run_asIntOf, run_underlying hu, Result.andThen_ok, Instr.sureAddr, Sem.run_pure, Sem.run_ite, if_pos hi, run_size hs]
  rcases hv with ⟨b, o, rfl, rfl⟩ | ⟨cs, o, rfl, rfl⟩
  · cases ha with
    | ptr _ _ ad hn' had =>
      exact Does.same H (by simp only [Sem.run_bind, hrun, Result.andThen_ok]; rfl) (.ptr b _ _ hn' fun l hl => by rw [had l hl, Addr.add_none]; congr 1; omega)
  · cases ha with
    | fp _ _ b p vals h1 h2 h3 =>
      refine Does.same H (by simp only [Sem.run_bind, hrun, Result.andThen_ok]; rfl) ?_
      rw [Addr.add_none, show p + o + i.toNat * es = p + (o + i.toNat * es) by omega]
      exact .fp cs _ b p vals h1 h2 h3
end
end Go.Vs
namespace Go.Vs
open Go.RowKit

section
variable {w0 w : World} {E : Env} {h : Hp} {x : X}

/-- A bound of a slice expression. -/
def Bd (_ : World) (_ : Program) (lo : Option Value) (d r : Nat) : Prop := match lo with
  | none => r = d
  | some v => ∃ k, v = .int k r

theorem run_bound {P : Program} {k : IntKind} {r y : Nat} {c : BoundsCode} (hr : r ≤ y) : (Instr.sliceBound (.int k r) y c).run P w = .ok r w := by
  simp only [Instr.sliceBound, Sem.run_bind, run_asIntOf, Result.andThen_ok, Sem.run_ite]
  rw [if_pos ⟨by omega, by omega⟩]
  simp

theorem run_bounds {P : Program} {isSlice : Bool} {len cap l u m : Nat} {lo hi mx : Option Value} (hm : Bd w P mx cap m) (hu : Bd w P hi len u) (hl : Bd w P lo 0 l) (h1 : l ≤ u) (h2 : u ≤ m) (h3 : m ≤ cap) (hx : mx = none → m = cap) (hy : mx ≠ none → hi ≠ none) :
    (Instr.sliceBounds isSlice len cap lo hi mx).run P w = .ok (l, u, m) w := by
  unfold Instr.sliceBounds
  cases mx with
  | none =>
    have hm' := hx rfl
    subst hm'
    cases hi with
    | none =>
      simp only [Bd] at hu
      subst hu
      cases lo with
      | none => simp only [Bd] at hl; subst hl; simp
      | some v => obtain ⟨k, rfl⟩ := hl; simp [run_bound h1]
    | some v =>
      obtain ⟨k, rfl⟩ := hu
      cases lo with
      | none => simp only [Bd] at hl; subst hl; simp [run_bound h2]
      | some v => obtain ⟨k, rfl⟩ := hl; simp [run_bound h1, run_bound h2]
  | some v =>
    obtain ⟨k, rfl⟩ := hm
    cases hi with
    | none => exact absurd rfl (hy (by simp))
    | some v =>
      obtain ⟨k, rfl⟩ := hu
      cases lo with
      | none => simp only [Bd] at hl; subst hl; simp [run_bound h2, run_bound h3]
      | some v => obtain ⟨k, rfl⟩ := hl; simp [run_bound h1, run_bound h2, run_bound h3]

theorem take_drop_str (s : List UInt8) (l u : Nat) : (⟨s.toArray⟩ : ByteArray).extract l u = ⟨((s.take u).drop l).toArray⟩ := by
  rw [Lib.extract_eq]
  congr 1
  simp [List.drop_take]

theorem flat_take_drop {es : Nat} : ∀ (xs : List V) (_ : ∀ x ∈ xs, x.cells.length = es) (l u : Nat), l ≤ u → u ≤ xs.length →
    (flat ((xs.take u).drop l)).length = (u - l) * es ∧ ∀ j, j < (u - l) * es → (flat ((xs.take u).drop l))[j]? = (flat xs)[l * es + j]? := by
  have hlen : ∀ (xs : List V), (∀ x ∈ xs, x.cells.length = es) → (flat xs).length = xs.length * es := by
    intro xs
    induction xs with
    | nil => intro _; simp [flat]
    | cons y r ih =>
      intro hall
      have := ih (fun z hz => hall z (by simp [hz]))
      simp only [flat] at this
      simp only [flat, List.flatMap_cons, List.length_append, hall y (by simp), this, List.length_cons, Nat.succ_mul]
      omega
  have hdrop : ∀ (xs : List V) (l : Nat), (∀ x ∈ xs, x.cells.length = es) → l ≤ xs.length → flat (xs.drop l) = (flat xs).drop (l * es) := by
    intro xs
    induction xs with
    | nil => intro l _ _; simp [flat]
    | cons y r ih =>
      intro l hall hl
      cases l with
      | zero => simp
      | succ l =>
        have := ih l (fun z hz => hall z (by simp [hz])) (by simpa using hl)
        have hy := hall y (by simp)
        simp only [flat] at this ⊢
        rw [List.drop_succ_cons, this, List.flatMap_cons, Nat.succ_mul, Nat.add_comm (l * es) es, ← List.drop_drop, ← hy, List.drop_left]
  have htake : ∀ (xs : List V) (u : Nat), (∀ x ∈ xs, x.cells.length = es) → flat (xs.take u) = (flat xs).take (u * es) := by
    intro xs
    induction xs with
    | nil => intro u _; simp [flat]
    | cons y r ih =>
      intro u hall
      cases u with
      | zero => simp [flat]
      | succ u =>
        have := ih u (fun z hz => hall z (by simp [hz]))
        have hy := hall y (by simp)
        simp only [flat] at this ⊢
        rw [List.take_succ_cons, List.flatMap_cons, this, List.flatMap_cons, Nat.succ_mul, Nat.add_comm (u * es) es, List.take_append, hy]
        congr 1
        · exact (List.take_of_length_le (by omega)).symm
        · congr 1; omega
  intro xs hall l u hlu hu
  have hall' : ∀ x ∈ xs.take u, x.cells.length = es := fun x hx => hall x (List.mem_of_mem_take hx)
  have e1 := hdrop (xs.take u) l hall' (by simp; omega)
  refine ⟨?_, fun j hj => ?_⟩
  · rw [hlen _ (fun x hx => hall' x (List.mem_of_mem_drop hx))]
    simp only [List.length_drop, List.length_take]
    rw [Nat.min_eq_left hu]
  · rw [e1, List.getElem?_drop, htake xs u hall, List.getElem?_take_of_lt (by have : (u - l) * es = u * es - l * es := Nat.sub_mul u l es; omega)]

theorem opt_take {α : Type} (xs : List α) (hi : Option Nat) : upTo hi xs = xs.take (hi.getD xs.length) := by cases hi <;> simp [upTo]

/-- The bounds as the instruction tells them. -/
theorem slc_spec {t : TypeId} {es : Nat} {a v : V} {u : Value} {l : Nat} {hi mx : Option Nat} {lo' hi' mx' : Option Value} (H : SR w0 E h w) (ha : VR E a u) (hv : slcV es a l hi mx = some v)
    (htd : ∃ d, x.P.underlying t = some d ∧ (d = .string ∨ ∃ e, d = .slice e ∧ tSize x.P e = some es))
    (hty : (∃ s, a = .str s) → x.P.underlying t = some .string) (hty' : (¬ ∃ s, a = .str s) → ∃ e, x.P.underlying t = some (.slice e))
    (hl : ∀ d, Bd w x.P lo' d l ∨ (lo' = none ∧ l = 0)) (hh : ∀ d, Bd w x.P hi' d (hi.getD d)) (hm : ∀ d, Bd w x.P mx' d (mx.getD d)) (hn : mx = none ↔ mx' = none) (hn' : hi = none ↔ hi' = none) (hmh : mx ≠ none → hi ≠ none) :
    Does x w0 E w ((do pure (.value (← Instr.sliceAt t u lo' hi' mx')) : Sem Next).run x.P w) (some (.val v h)) := by
  have hl0 : Bd w x.P lo' 0 l := by
    rcases hl 0 with h | ⟨h1, h2⟩
    · exact h
    · subst h1; exact h2
  have hy : mx' ≠ none → hi' ≠ none := fun h1 h2 => hmh (fun e => h1 (hn.1 e)) (hn'.2 h2)
  obtain ⟨d, hd, hdd⟩ := htd
  have hnarr : ∀ (r : Result Next), (∀ n e, d ≠ .array n e) → ((do pure (.value (← Instr.sliceAt t u lo' hi' mx')) : Sem Next).run x.P w) = ((do pure (.value (← Instr.slice t u lo' hi' mx')) : Sem Next).run x.P w) := fun r hne => by
    simp only [Instr.sliceAt, Sem.run_bind, run_underlying hd, Result.andThen_ok]
  rw [hnarr (.ok default w) (fun n e h => by rcases hdd with rfl | ⟨e', rfl, _⟩ <;> cases h)]
  unfold slcV at hv
  split at hv
  · -- a string
    rename_i s
    split at hv
    · rename_i hle
      cases hv
      have hu := hty ⟨s, rfl⟩
      rw [hu] at hd; cases hd
      cases ha
      have hmn : mx' = none := hn.1 rfl
      subst hmn
      have hb := run_bounds (P := x.P) (w := w) (isSlice := false) (len := s.length) (cap := s.length) (mx := none) (m := s.length) rfl (hh _) hl0 hle.1 hle.2 (Nat.le_refl _) (fun _ => rfl) (fun h => absurd rfl h)
      refine Does.same H ?_ (.str _)
      rw [opt_take]
      simp only [Instr.slice, Sem.run_bind, run_underlying hu, Result.andThen_ok]
      have hsz : (⟨s.toArray⟩ : ByteArray).size = s.length := rfl
      simp [hsz, hb, take_drop_str]
    · cases hv
  · -- nil
    split at hv
    · rename_i m hz
      cases hv
      cases ha
      obtain ⟨e, hu⟩ := hty' (fun ⟨s, hs⟩ => by cases hs)
      rw [hu] at hd; cases hd
      rcases hdd with hdd | ⟨e', he, hs⟩
      · cases hdd
      cases he
      have h1 := hh 0; rw [hz.2.1] at h1
      have h2 := hm 0; rw [hz.2.2] at h2
      have hl1 := hl0; rw [hz.1] at hl1
      have hb := run_bounds (P := x.P) (w := w) (isSlice := true) (len := 0) (cap := 0) h2 h1 hl1 (Nat.le_refl _) (Nat.le_refl _) (Nat.le_refl _) (fun _ => rfl) hy
      refine Does.same H ?_ .nsl
      simp only [Instr.slice, Sem.run_bind, run_underlying hu, Result.andThen_ok]
      simp [hb, run_size hs]
    · cases hv
  · -- frozen, no third index
    rename_i ex xs
    split at hv
    · rename_i hle
      cases hv
      obtain ⟨e, hu⟩ := hty' (fun ⟨s, hs⟩ => by cases hs)
      rw [hu] at hd; cases hd
      rcases hdd with hdd | ⟨e', he, hs⟩
      · cases hdd
      cases he
      have hmn : mx' = none := hn.1 rfl
      subst hmn
      cases ha with
      | lst _ _ es' ad b p cap vals hc hex hes hne g1 g2 g3 =>
        have hb := run_bounds (P := x.P) (w := w) (isSlice := true) (len := xs.length) (cap := cap) (mx := none) (m := cap) rfl (hh _) hl0 hle.1 (by omega) (Nat.le_refl _) (fun _ => rfl) (fun h => absurd rfl h)
        generalize hU : hi.getD xs.length = U at *
        have hrun : ((do pure (.value (← Instr.slice t (.slice (some ad) xs.length cap) lo' hi' none)) : Sem Next).run x.P w) = .ok (.value (.slice (some (if cap = l then ad else ad.add (l * es))) (U - l) (cap - l))) w := by
          simp only [Instr.slice, Sem.run_bind, run_underlying hu, Result.andThen_ok]
          simp [hb, run_size hs]
          split <;> rfl
        refine Does.same H hrun ?_
        rw [opt_take, hU]
        obtain ⟨f1, f2⟩ := flat_take_drop xs hle.2.2 l U hle.1 hle.2.1
        have hlen : ((xs.take U).drop l).length = U - l := by simp; omega
        have key := VR.lst (E := E) (ex && U == xs.length) ((xs.take U).drop l) es (if cap = l then ad else ad.add (l * es)) b (p + l * es) (cap - l) (fun j => vals (l * es + j)) (by rw [hlen]; omega)
          (fun hx => by
            simp only [Bool.and_eq_true, beq_iff_eq] at hx
            rw [hlen, hex hx.1, hx.2])
          (fun y hy => hle.2.2 y (List.mem_of_mem_take (List.mem_of_mem_drop hy)))
          (fun hne' => by
            have hUl : l < U := by
              rcases Nat.lt_or_ge l U with h | h
              · exact h
              · exact absurd (List.eq_nil_of_length_eq_zero (by rw [hlen]; omega)) hne'
            rw [if_neg (by omega), hne (fun e => by rw [e] at hle; simp at hle; omega), Addr.add_none])
          (fun j hj => by
            rw [f1] at hj
            rw [Nat.add_assoc]
            refine g1 _ ?_
            have := f2 j hj
            rcases Nat.lt_or_ge (l * es + j) (flat xs).length with h | h
            · exact h
            · rw [List.getElem?_eq_none h, List.getElem?_eq_getElem (by rw [f1]; exact hj)] at this; cases this)
          (fun j hj => by
            have hj' := hj; rw [f1] at hj'
            have := f2 j hj'
            have h2 : l * es + j < (flat xs).length := by
              rcases Nat.lt_or_ge (l * es + j) (flat xs).length with h | h
              · exact h
              · rw [List.getElem?_eq_none h, List.getElem?_eq_getElem hj] at this; cases this
            rw [List.getElem?_eq_getElem hj, List.getElem?_eq_getElem h2] at this
            rw [Option.some.inj this]; exact g2 _ h2)
          (fun j hj => by
            rw [f1] at hj
            refine g3 _ ?_
            have := f2 j hj
            rcases Nat.lt_or_ge (l * es + j) (flat xs).length with h | h
            · exact h
            · rw [List.getElem?_eq_none h, List.getElem?_eq_getElem (by rw [f1]; exact hj)] at this; cases this)
        rw [hlen] at key
        exact key
    · cases hv
  · -- frozen, with a third index
    rename_i ex xs m
    split at hv
    · rename_i hle
      cases hv
      obtain ⟨e, hu⟩ := hty' (fun ⟨s, hs⟩ => by cases hs)
      rw [hu] at hd; cases hd
      rcases hdd with hdd | ⟨e', he, hs⟩
      · cases hdd
      cases he
      cases ha with
      | lst _ _ es' ad b p cap vals hc hex hes hne g1 g2 g3 =>
        have hb := run_bounds (P := x.P) (w := w) (isSlice := true) (len := xs.length) (cap := cap) (hm cap) (hh _) hl0 hle.1 hle.2.1 (by simp only [Option.getD_some]; omega) (fun h => by have := hn.2 h; cases this) hy
        simp only [Option.getD_some] at hb
        generalize hU : hi.getD xs.length = U at *
        have hrun : ((do pure (.value (← Instr.slice t (.slice (some ad) xs.length cap) lo' hi' mx')) : Sem Next).run x.P w) = .ok (.value (.slice (some (if m = l then ad else ad.add (l * es))) (U - l) (m - l))) w := by
          simp only [Instr.slice, Sem.run_bind, run_underlying hu, Result.andThen_ok]
          simp [hb, run_size hs]
          split <;> rfl
        refine Does.same H hrun ?_
        rw [opt_take, hU]
        obtain ⟨f1, f2⟩ := flat_take_drop xs hle.2.2.2 l U hle.1 (by omega)
        have hlen : ((xs.take U).drop l).length = U - l := by simp; omega
        have hlt : ∀ j, j < (U - l) * es → l * es + j < (flat xs).length := fun j hj => by
          have := f2 j hj
          rcases Nat.lt_or_ge (l * es + j) (flat xs).length with h | h
          · exact h
          · rw [List.getElem?_eq_none h, List.getElem?_eq_getElem (by rw [f1]; exact hj)] at this; cases this
        have key := VR.lst (E := E) (U == m) ((xs.take U).drop l) es (if m = l then ad else ad.add (l * es)) b (p + l * es) (m - l) (fun j => vals (l * es + j)) (by rw [hlen]; omega)
          (fun hx => by
            simp only [beq_iff_eq] at hx
            rw [hlen, hx])
          (fun y hy => hle.2.2.2 y (List.mem_of_mem_take (List.mem_of_mem_drop hy)))
          (fun hne' => by
            have hUl : l < U := by
              rcases Nat.lt_or_ge l U with h | h
              · exact h
              · exact absurd (List.eq_nil_of_length_eq_zero (by rw [hlen]; omega)) hne'
            rw [if_neg (by omega), hne (fun e => by rw [e] at hle; simp at hle; omega), Addr.add_none])
          (fun j hj => by
            rw [f1] at hj
            rw [Nat.add_assoc]
            exact g1 _ (hlt j hj))
          (fun j hj => by
            have hj' := hj; rw [f1] at hj'
            have := f2 j hj'
            rw [List.getElem?_eq_getElem hj, List.getElem?_eq_getElem (hlt j hj')] at this
            rw [Option.some.inj this]; exact g2 _ (hlt j hj'))
          (fun j hj => by
            rw [f1] at hj
            exact g3 _ (hlt j hj))
        rw [hlen] at key
        exact key
    · cases hv
  · -- live, no third index
    rename_i b off len cap ex es' ag
    split at hv
    · rename_i hle
      obtain ⟨rfl, hle⟩ := hle
      cases hv
      obtain ⟨e, hu⟩ := hty' (fun ⟨s, hs⟩ => by cases hs)
      rw [hu] at hd; cases hd
      rcases hdd with hdd | ⟨e', he, hs⟩
      · cases hdd
      cases he
      have hmn : mx' = none := hn.1 rfl
      subst hmn
      cases ha with
      | sl _ _ _ _ _ _ _ ad cap' hnn hll hcap hex hh' =>
        have hb := run_bounds (P := x.P) (w := w) (isSlice := true) (len := len) (cap := cap') (mx := none) (m := cap') rfl (hh _) hl0 hle.1 (by omega) (Nat.le_refl _) (fun _ => rfl) (fun h => absurd rfl h)
        generalize hU : hi.getD len = U at *
        have hrun : ((do pure (.value (← Instr.slice t (.slice (some ad) len cap') lo' hi' none)) : Sem Next).run x.P w) = .ok (.value (.slice (some (if cap' = l then ad else ad.add (l * es'))) (U - l) (cap' - l))) w := by
          simp only [Instr.slice, Sem.run_bind, run_underlying hu, Result.andThen_ok]
          simp [hb, run_size hs]
          split <;> rfl
        refine Does.same H hrun (.sl _ _ _ _ _ _ _ _ _ hnn (by omega) (by omega) (fun hx => by rw [hex hx]) fun lc hlc => ?_)
        obtain ⟨q1, q2⟩ := hh' lc hlc
        refine ⟨?_, fun j hj => ?_⟩
        · by_cases hcl : cap' = l
          · left; omega
          · right
            rw [if_neg hcl]
            rcases q1 with q1 | q1
            · omega
            · rw [q1, Addr.add_none]; congr 1; omega
        · have := q2 (l * es' + j) (by rw [Nat.sub_mul] at hj; omega)
          rwa [show lc.base + off + (l * es' + j) = lc.base + (off + l * es') + j by omega] at this
    · cases hv
  · -- live, with a third index
    rename_i b off len cap ex es' ag m
    split at hv
    · rename_i hle
      obtain ⟨rfl, hle⟩ := hle
      cases hv
      obtain ⟨e, hu⟩ := hty' (fun ⟨s, hs⟩ => by cases hs)
      rw [hu] at hd; cases hd
      rcases hdd with hdd | ⟨e', he, hs⟩
      · cases hdd
      cases he
      cases ha with
      | sl _ _ _ _ _ _ _ ad cap' hnn hll hcap hex hh' =>
        have hb := run_bounds (P := x.P) (w := w) (isSlice := true) (len := len) (cap := cap') (hm cap') (hh _) hl0 hle.1 hle.2.1 (by simp only [Option.getD_some]; omega) (fun h => by have := hn.2 h; cases this) hy
        simp only [Option.getD_some] at hb
        generalize hU : hi.getD len = U at *
        have hrun : ((do pure (.value (← Instr.slice t (.slice (some ad) len cap') lo' hi' mx')) : Sem Next).run x.P w) = .ok (.value (.slice (some (if m = l then ad else ad.add (l * es'))) (U - l) (m - l))) w := by
          simp only [Instr.slice, Sem.run_bind, run_underlying hu, Result.andThen_ok]
          simp [hb, run_size hs]
          split <;> rfl
        refine Does.same H hrun (.sl _ _ _ _ _ _ _ _ _ hnn (by omega) (by omega) (fun hx => rfl) fun lc hlc => ?_)
        obtain ⟨q1, q2⟩ := hh' lc hlc
        refine ⟨?_, fun j hj => ?_⟩
        · by_cases hcl : m = l
          · left; omega
          · right
            rw [if_neg hcl]
            rcases q1 with q1 | q1
            · omega
            · rw [q1, Addr.add_none]; congr 1; omega
        · have h5 : (m - l) * es' ≤ cap' * es' - l * es' := by rw [← Nat.sub_mul]; exact Nat.mul_le_mul_right _ (by omega)
          have := q2 (l * es' + j) (by omega)
          rwa [show lc.base + off + (l * es' + j) = lc.base + (off + l * es') + j by omega] at this
    · cases hv
  · cases hv
end
end Go.Vs
namespace Go.Vs
open Go.RowKit
set_option linter.unusedSimpArgs false
set_option linter.unusedVariables false

section
variable {w0 w : World} {E : Env} {h : Hp} {x : X}

theorem made_bytes (w : World) (e : TypeId) (s : ByteArray) : Made w (Lib.bytesWorld w e s) (Lib.bytesCells w e s) where
  below := ⟨rfl, rfl, rfl, by rw [Lib.bytesWorld_size]; omega, fun k hk => Lib.bytesWorld_at_old w e s k hk⟩
  size := by rw [Lib.bytesWorld_size]; omega
  cell o := by simp [World.cell?, Lib.bytesWorld_at_new]
  free o ho := by simp [World.frozen?, Lib.bytesWorld_at_new]; omega

theorem bytes_vals (E : Env) (s : List UInt8) : Vals E (s.map fun c => .int .u8 c.toNat) (s.map fun c => .int .u8 c.toNat) :=
  ⟨by simp, fun j u hu => by
    rw [List.getElem?_map] at hu
    cases hs : s[j]? with
    | none => rw [hs] at hu; cases hu
    | some c =>
      rw [hs] at hu
      cases hu
      exact ⟨rfl, fun y hy => by rw [List.getElem?_map, hs] at hy; cases hy; exact .int _ _⟩⟩

theorem bytes_cells (w : World) (e : TypeId) (s : List UInt8) (j : Nat) (u : Value) (hu : (s.map fun c => Value.int .u8 c.toNat)[j]? = some u) : (Lib.bytesCells w e ⟨s.toArray⟩)[j]? = some u := by
  have hj : j < s.length := by
    rcases Nat.lt_or_ge j s.length with h' | h'
    · exact h'
    · rw [List.getElem?_eq_none (by simpa using h')] at hu; cases hu
  unfold Lib.bytesCells
  rw [Array.getElem?_append_left (by simpa using hj)]
  simpa using hu

theorem flat_bytes (s : List UInt8) : flat (s.map fun c => V.int .u8 c.toNat) = s.map fun c => V.int .u8 c.toNat := by
  induction s with
  | nil => rfl
  | cons c r ih => simp only [flat] at ih ⊢; simp [V.cells, ih]

theorem grownCap_ge (w : World) (n o : Nat) (e : TypeId) : n ≤ grownCap w n o e := by simp [grownCap, Question.cut]

theorem does_s2b {fz : Bool} {s1 d e : TypeId} {s : List UInt8} {u : Value} {td : TypeDesc} (H : SR w0 E h w) (h1 : x.P.underlying s1 = some td) (h2 : x.P.underlying d = some (.slice e)) (h3 : x.P.underlying e = some (.int .u8)) (ha : VR E (.str s) u) :
    Does x w0 E w ((do pure (.value (← convert s1 d u)) : Sem Next).run x.P w)
      (some (if fz then .val (.lst false (s.map fun c => .int .u8 c.toNat)) h else newSl h s.length 1 false (s.map fun c => .int .u8 c.toNat))) := by
  cases ha
  have hr := Lib.run_convert_string_bytes (P := x.P) w s1 d e ⟨s.toArray⟩ h1 h2 h3
  have hsz : (⟨s.toArray⟩ : ByteArray).size = s.length := rfl
  rw [hsz] at hr
  have hm := made_bytes w e ⟨s.toArray⟩
  have hc := bytes_cells w e s
  have hcap := grownCap_ge w s.length 0 e
  have hcs : (Lib.bytesCells w e ⟨s.toArray⟩).size = grownCap w s.length 0 e := by simp [Lib.bytesCells, hsz]; omega
  cases fz with
  | true =>
    refine ⟨_, E.ice w.heap.size _, _, Le.ice H (Lib.bytesCells w e ⟨s.toArray⟩), by simp only [Sem.run_bind, hr, Result.andThen_ok]; rfl, ?_, H.newFrz hm⟩
    have hlen : (s.map fun c => V.int .u8 c.toNat).length = s.length := by simp
    have key := VR.lst (E := E.ice w.heap.size (Lib.bytesCells w e ⟨s.toArray⟩)) false (s.map fun c => V.int .u8 c.toNat) 1 ⟨w.heap.size, 0, none⟩ w.heap.size 0 (grownCap w s.length 0 e) (fun j => .int .u8 (s.getD j 0).toNat)
      (by rw [hlen]; exact hcap) (by simp) (by simp [V.cells]) (fun _ => rfl)
      (fun j hj => by
        rw [flat_bytes, hlen] at hj
        simp only [Env.ice, if_pos, Nat.zero_add]
        exact hc j _ (by rw [List.getElem?_map, List.getElem?_eq_getElem hj]; simp [List.getD, List.getElem?_eq_getElem hj]))
      (fun j hj => by
        have hj' := hj
        rw [flat_bytes, hlen] at hj'
        have : (flat (s.map fun c => V.int .u8 c.toNat))[j] = .int .u8 (s.getD j 0).toNat := by
          simp [flat_bytes, List.getD, List.getElem?_eq_getElem hj']
        rw [this]; exact .int _ _)
      (fun j hj => rfl)
    rw [hlen] at key
    exact key
  | false =>
    refine ⟨_, E.add (newLoc w (Lib.bytesCells w e ⟨s.toArray⟩).size), _, Le.add _ _, by simp only [Sem.run_bind, hr, Result.andThen_ok]; rfl, ?_, H.newCells hm (bytes_vals E s) hc⟩
    exact VR.newSl H _ _ _ _ _ _ _ (Nat.le_refl _) hcap (by simp) (by rw [hcs]; omega)

/-- What a slice or a string gives, element by element. -/
theorem src_spec {es n : Nat} {a : V} {u : Value} {ys : List V} (H : SR w0 E h w) (ha : VR E a u) (hs : src h es a = some (n, ys)) :
    (Builtin.lenOf u).run x.P w = .ok n w ∧ ys.length = n * es ∧ ∃ vs, Vals E ys vs ∧ ∀ m, m ≤ n → (Builtin.firstCells es m u).run x.P w = .ok (vs.take (m * es)).toArray w := by
  unfold src at hs
  split at hs
  · cases hs
    cases ha
    exact ⟨rfl, by simp, [], ⟨rfl, fun j u hu => by simp at hu⟩, fun m hm => by simp [Builtin.firstCells]⟩
  · rename_i b off len cap ex es' ag
    split at hs
    · rename_i he
      subst he
      cases hr : rd h (.ptr b off) (len * es') with
      | none => rw [hr] at hs; cases hs
      | some l =>
        rw [hr] at hs
        simp only [Option.map_some, Option.some.injEq, Prod.mk.injEq] at hs
        obtain ⟨rfl, rfl⟩ := hs
        simp only [rd] at hr
        split at hr
        · rename_i cs hg
          obtain ⟨lc, hm, hb⟩ := H.live hg
          obtain ⟨vs, hrow⟩ := hb.row hr
          have hln := (sub_spec hr).2.1
          cases ha with
          | sl _ _ _ _ _ _ _ ad cap' hn hl hc hex hh =>
            obtain ⟨q1, q2⟩ := hh lc hm
            refine ⟨rfl, hln, vs, hrow.vals, fun m hmn => ?_⟩
            rcases q1 with q1 | q1
            · have : m = 0 := by omega
              subst this
              simp [Builtin.firstCells, loadCells, loadCellsFrom]
            · rw [q1]
              simp only [Builtin.firstCells]
              have hl2 : (vs.take (m * es')).length = m * es' := by
                rw [List.length_take, hrow.1, hln]
                exact Nat.min_eq_left (Nat.mul_le_mul_right _ hmn)
              have := run_loadCells_list (P := x.P) w ⟨lc.b, lc.base + off, none⟩ (vs.take (m * es')) (fun j v hv => by
                rw [Addr.add_none]
                refine (hrow.2 j v ?_).1
                rw [List.getElem?_take] at hv
                split at hv
                · exact hv
                · cases hv)
              rwa [hl2] at this
        · cases hr
    · cases hs
  · rename_i ex xs
    split at hs
    · rename_i hall
      simp only [Option.some.injEq, Prod.mk.injEq] at hs
      obtain ⟨rfl, rfl⟩ := hs
      have hfl : (flat xs).length = xs.length * es := by have := (flat_take_drop xs hall 0 xs.length (by omega) (Nat.le_refl _)).1; simpa using this
      cases ha with
      | lst _ _ es' ad b p cap vals hc hex hes hne g1 g2 g3 =>
        obtain ⟨vs, hl, hv⟩ := exists_list (flat xs).length vals
        refine ⟨rfl, hfl, vs, ⟨hl, fun j u hu => ?_⟩, fun m hmn => ?_⟩
        · obtain ⟨rfl, hj⟩ := hv j u hu
          exact ⟨g3 j hj, fun y hy => by rw [List.getElem?_eq_getElem hj] at hy; cases hy; exact g2 j hj⟩
        · simp only [Builtin.firstCells]
          have hl2 : (vs.take (m * es)).length = m * es := by
            rw [List.length_take, hl, hfl]
            exact Nat.min_eq_left (Nat.mul_le_mul_right _ hmn)
          have := run_loadCells_list (P := x.P) w ad (vs.take (m * es)) (fun j v hv' => by
            have hj : j < m * es := by rw [← hl2]; exact (List.getElem?_eq_some_iff.1 hv').1
            have hx : xs ≠ [] := fun e => by rw [e] at hmn; simp at hmn; rw [hmn] at hj; simp at hj
            rw [hne hx, Addr.add_none]
            rw [List.getElem?_take_of_lt hj] at hv'
            obtain ⟨rfl, hj2⟩ := hv j v hv'
            exact H.frz b (p + j) _ (g1 j hj2))
          rwa [hl2] at this
    · cases hs
  · rename_i s
    split at hs
    · rename_i he
      subst he
      simp only [Option.some.injEq, Prod.mk.injEq] at hs
      obtain ⟨rfl, rfl⟩ := hs
      cases ha
      refine ⟨rfl, by simp, _, bytes_vals E s, fun m hmn => ?_⟩
      simp only [Builtin.firstCells, Sem.run_pure, Result.ok.injEq, and_true, Nat.mul_one]
      rw [Lib.extract_eq]
      simp [List.map_take]
    · cases hs
  · cases hs

theorem does_b2s {s1 d e : TypeId} {a : V} {u : Value} {n : Nat} {cs : List V} {td : TypeDesc} (H : SR w0 E h w) (h1 : x.P.underlying s1 = some (.slice e)) (h2 : x.P.underlying d = some .string) (h3 : x.P.underlying e = some (.int .u8)) (ha : VR E a u)
    (hns : a.isStr = false) (hs : src h 1 a = some (n, cs)) (hb : ∀ c ∈ cs, c.isByte = true) :
    Does x w0 E w ((do pure (.value (← convert s1 d u)) : Sem Next).run x.P w) (some (.val (.str (cs.map fun | .int _ n => UInt8.ofNat n.toNat | _ => 0)) h)) := by
  obtain ⟨hlen, hl, vs, hv, hf⟩ := src_spec (x := x) H ha hs
  have hshape : (u = .slice none 0 0) ∨ ∃ ad cap, u = .slice (some ad) n cap := by
    cases a with
    | nsl => cases ha; exact .inl rfl
    | sl b off len cap ex es ag =>
      cases ha
      simp only [src] at hs
      split at hs
      · simp only [Option.map_eq_some_iff, Prod.mk.injEq] at hs; obtain ⟨_, _, rfl, _⟩ := hs; exact .inr ⟨_, _, rfl⟩
      · cases hs
    | lst ex xs =>
      cases ha
      simp only [src] at hs
      split at hs
      · simp only [Option.some.injEq, Prod.mk.injEq] at hs; obtain ⟨rfl, _⟩ := hs; exact .inr ⟨_, _, rfl⟩
      · cases hs
    | str s => simp [V.isStr] at hns
    | _ => simp [src] at hs
  have key : ∃ r : ByteArray, (Conv.bytesToString u).run x.P w = .ok (.string r) w ∧ r = ⟨(cs.map fun | .int _ n => UInt8.ofNat n.toNat | _ => 0).toArray⟩ := by
    rcases hshape with rfl | ⟨ad, cap, rfl⟩
    · cases ha
      simp [src] at hs
      obtain ⟨rfl, rfl⟩ := hs
      exact ⟨.empty, by simp [Conv.bytesToString], rfl⟩
    · have hl2 := hf n (Nat.le_refl _)
      simp only [Builtin.firstCells, Nat.mul_one] at hl2
      rw [List.take_of_length_le (by rw [hv.1, hl]; omega)] at hl2
      have hvs : vs = (cs.map fun | .int _ n => n | _ => 0).map (Value.int .u8) := by
        refine List.ext_getElem? fun j => ?_
        rcases Nat.lt_or_ge j cs.length with hj | hj
        · have hjv : j < vs.length := by rw [hv.1]; exact hj
          have h0 := (hv.2 j _ (List.getElem?_eq_getElem hjv)).2 _ (List.getElem?_eq_getElem hj)
          have hbyte := hb _ (List.getElem_mem hj)
          rw [List.getElem?_eq_getElem hjv, List.map_map, List.getElem?_map, List.getElem?_eq_getElem hj]
          generalize cs[j] = c at *
          generalize vs[j] = v at *
          cases h0 <;> simp [V.isByte] at hbyte
          rename_i k m
          cases k <;> simp [V.isByte] at hbyte
          rfl
        · rw [List.getElem?_eq_none (by rw [hv.1]; exact hj), List.getElem?_eq_none (by simpa using hj)]
      rw [hvs] at hl2
      refine ⟨_, run_bytesToString w ad n cap _ hl2, ?_⟩
      have hfold : ∀ (ns : List Int) (l : List UInt8), ns.foldl (fun r n => r.push (UInt8.ofNat n.toNat)) (⟨l.toArray⟩ : ByteArray) = ⟨(l ++ ns.map fun n => UInt8.ofNat n.toNat).toArray⟩ := by
        intro ns
        induction ns with
        | nil => intro l; simp
        | cons m r ih =>
          intro l
          rw [List.foldl_cons]
          have : (⟨l.toArray⟩ : ByteArray).push (UInt8.ofNat m.toNat) = ⟨(l ++ [UInt8.ofNat m.toNat]).toArray⟩ := by simp [ByteArray.push]
          rw [this, ih]; simp
      have h0 := hfold (cs.map fun | .int _ n => n | _ => 0) []
      rw [List.nil_append, List.map_map] at h0
      rw [show (ByteArray.empty : ByteArray) = ⟨([] : List UInt8).toArray⟩ from rfl, h0]
      congr 2
      refine List.map_congr_left fun c _ => ?_
      cases c <;> rfl
  obtain ⟨r, hr, rfl⟩ := key
  refine Does.same H ?_ (.str _)
  have : (convert s1 d u).run x.P w = (Conv.bytesToString u).run x.P w := by
    rcases hshape with rfl | ⟨ad, cap, rfl⟩ <;>
      simp only [convert, Sem.run_bind, run_underlying h1, run_underlying h2, run_underlying h3, Result.andThen_ok]
  simp only [Sem.run_bind, this, hr, Result.andThen_ok]
  rfl
end
end Go.Vs
namespace Go.Vs
open Go.RowKit

section
variable {w0 w w' : World} {E : Env} {h : Hp} {x : X}

/-- Cells that nobody owns any more become a block. -/
theorem SR.adopt (H : SR w0 E h w) (l : Loc) (x : Blk) (hr : BR w0.heap.size (E.add l) w l x) (hd : ∀ β l' b o, E.mu β = some l' → l'.own b o → l.own b o → False) (hf : ∀ b o, l.own b o → E.frz b o = none) (hold : ∀ b o, l.own b o → ¬ E.old b o) (hhid : E.hid l.b = none) :
    SR w0 (E.add l) (h ++ [some x]) w := by
  refine ⟨by simp [H.len, Env.add], H.below, H.frz, fun β y hy => ?_, fun β l' hm => ?_, fun β β' l1 l2 b o h1 h2 o1 o2 => ?_, fun β l' b o hm ho => ?_, fun b o ho => ⟨(H.old b o ho).1, (H.old b o ho).2.1, fun β l' hm ho' => ?_⟩, fun b o ho => ⟨(H.hid b o ho).1, (H.hid b o ho).2.1, fun β l' hm e => ?_⟩⟩
  · by_cases hβ : β = E.n
    · subst hβ
      rw [List.getElem?_append_right (by rw [H.len]; exact Nat.le_refl _), H.len] at hy
      simp at hy
      subst hy
      exact ⟨l, by simp [Env.add], hr⟩
    · have hβ' : β < h.length := by
        rcases Nat.lt_or_ge β h.length with h' | h'
        · exact h'
        · rw [List.getElem?_eq_none (by rw [List.length_append, List.length_singleton]; rw [H.len] at h' ⊢; omega)] at hy; cases hy
      rw [List.getElem?_append_left hβ'] at hy
      obtain ⟨l', hl', hr'⟩ := H.blk β y hy
      exact ⟨l', by simp only [Env.add]; rw [if_neg hβ]; exact hl', hr'.mono (Le.add E l) (Nat.le_refl _) rfl⟩
  · simp only [Env.add] at hm
    by_cases hβ : β = E.n
    · subst hβ
      exact ⟨x, by rw [List.getElem?_append_right (by rw [H.len]; exact Nat.le_refl _), H.len]; simp⟩
    · rw [if_neg hβ] at hm
      obtain ⟨y, hy⟩ := H.non β l' hm
      exact ⟨y, by rw [List.getElem?_append_left (by have := H.mu_lt hm; rw [H.len]; exact this)]; exact hy⟩
  · simp only [Env.add] at h1 h2
    by_cases hβ : β = E.n
    · by_cases hβ' : β' = E.n
      · rw [hβ, hβ']
      · rw [if_pos hβ] at h1; rw [if_neg hβ'] at h2
        cases h1
        exact (hd β' l2 b o h2 o2 o1).elim
    · by_cases hβ' : β' = E.n
      · rw [if_neg hβ] at h1; rw [if_pos hβ'] at h2
        cases h2
        exact (hd β l1 b o h1 o1 o2).elim
      · rw [if_neg hβ] at h1; rw [if_neg hβ'] at h2
        exact H.dis β β' l1 l2 b o h1 h2 o1 o2
  · simp only [Env.add] at hm ⊢
    by_cases hβ : β = E.n
    · rw [if_pos hβ] at hm
      cases hm
      exact hf b o ho
    · rw [if_neg hβ] at hm
      exact H.dfr β l' b o hm ho
  · simp only [Env.add] at hm
    by_cases hβ : β = E.n
    · rw [if_pos hβ] at hm
      cases hm
      exact hold b o ho' ho
    · rw [if_neg hβ] at hm
      exact (H.old b o ho).2.2 β l' hm ho'
  · simp only [Env.add] at hm
    by_cases hβ : β = E.n
    · rw [if_pos hβ] at hm
      cases hm
      have ho' : E.hid b = some o := ho
      rw [e, ho'] at hhid
      cases hhid
    · rw [if_neg hβ] at hm
      exact (H.hid b o ho).2.2 β l' hm e

/-- Cells that a block owns are written; of the block nothing is told behind it. -/
theorem SR.dirty (H : SR w0 E h w) {β : Nat} {l : Loc} {cs : List V} {ty : Option TypeId} (hg : hget h β = some (.cells cs ty)) (hm : E.mu β = some l) (q : Nat) (vs : List Value) (ho : ∀ j, j < vs.length → l.own l.b (q + j)) :
    SR w0 (E.kill β) (h.set β none) (w.setCells l.b q vs) := by
  obtain ⟨l2, hm2, hb⟩ := H.live hg
  rw [hm] at hm2; cases hm2
  obtain ⟨hT, hB, hlt, hown, hcs⟩ := hb
  have hk := H.kill β
  have hout : ∀ b p, ¬ l.own b p → (w.setCells l.b q vs).cell? ⟨b, p, none⟩ = w.cell? ⟨b, p, none⟩ := fun b p hn => by
    refine World.cell?_setCells_out _ _ _ _ _ (fun h1 _ => ?_)
    simp only at h1 ⊢
    rcases Nat.lt_or_ge p q with h2 | h2
    · exact .inl h2
    · rcases Nat.lt_or_ge p (q + vs.length) with h3 | h3
      · have := ho (p - q) (by omega)
        rw [show q + (p - q) = p by omega, ← h1] at this
        exact absurd this hn
      · exact .inr h3
  refine ⟨hk.len, hk.below.trans (below_setCells _ _ hB _ _ _), fun b p v hf => ?_, fun γ y hy => ?_, hk.non, hk.dis, hk.dfr, fun b p ho => ⟨by rw [size_setCells]; exact (hk.old b p ho).1, (hk.old b p ho).2⟩, fun b p ho => ⟨by rw [heap_setCells _ _ _ _ _ (fun e => (H.hid b p ho).2.2 β l hm e.symm)]; exact (H.hid b p ho).1, (hk.hid b p ho).2⟩⟩
  · rw [hout b p (fun hc => by have := H.dfr β l b p hm hc; have hf' : E.frz b p = some v := hf; rw [hf'] at this; cases this)]
    exact hk.frz b p v hf
  · obtain ⟨l', hm', hb'⟩ := hk.blk γ y hy
    have hm2 : E.mu γ = some l' ∧ γ ≠ β := by
      simp only [Env.kill] at hm'
      split at hm'
      · cases hm'
      · rename_i hne; exact ⟨hm', hne⟩
    have hno : ∀ b p, l'.own b p → ¬ l.own b p := fun b p h1 h2 => hm2.2 (H.dis γ β l' l b p hm2.1 hm h1 h2)
    refine ⟨l', hm', ?_⟩
    cases y with
    | cells cs' ty' =>
      obtain ⟨g0, g1, g2, g3, g4⟩ := hb'
      refine ⟨g0.mono fun s hs => by rw [shape_setCells]; exact hs, g1, by rw [size_setCells]; exact g2, fun b p ho' => ?_, fun j hj => ?_⟩
      · obtain ⟨e, h1, h2⟩ := g3 b p ho'
        exact ⟨e, by rw [hout b p (hno b p ho')]; exact h1, by rw [World.frozen?_setCells]; exact h2⟩
      · obtain ⟨h1, v, h2, h3, h4⟩ := g4 j hj
        exact ⟨h1, v, by rw [hout _ _ (hno _ _ h1)]; exact h2, h3, h4⟩
    | map es =>
      obtain ⟨g1, g0, g2, ms, clock, g3, g4⟩ := hb'
      refine ⟨g1, g0, g2, ms, clock, ?_, g4⟩
      cases vs with
      | nil => exact g3
      | cons v0 r0 =>
        rw [heap_setCells _ _ _ _ _ (fun e => ?_)]
        · exact g3
        · rw [e] at g3
          have h2 := (hown _ _ (ho 0 (by simp))).2.1
          unfold World.cell? at h2
          rw [g3] at h2
          simp at h2

theorem growBy_le (n : Nat) : ∀ (k c : Nat), c ≤ 2 * n + 256 → Builtin.growBy n k c ≤ 2 * n + 256
  | 0, c, h => h
  | k + 1, c, h => by
    simp only [Builtin.growBy]
    split
    · exact h
    · exact growBy_le n k _ (by omega)

theorem nextcap_le {n o : Nat} (h : o < n) : Builtin.nextslicecap n o ≤ 2 * n + 256 := by
  unfold Builtin.nextslicecap
  split
  · omega
  · split
    · omega
    · exact growBy_le n 4 o (by omega)

theorem zeroCells_size (z : Array Value) (n : Nat) : (Builtin.zeroCells z n).size = n * z.size := by simp [Builtin.zeroCells]

/-- What 'append' asks of its types. -/
structure AppT (P : Program) (t1 t2 : TypeId) (es bt : Nat) (e : TypeId) (i : TypeInfo) (z : Value) : Prop where
  u1 : P.underlying t1 = some (.slice e)
  u2 : P.underlying t2 = some .string ∨ ∃ e', P.underlying t2 = some (.slice e')
  info : P.info? e = some i
  size : i.size = es
  bytes : i.bytes = bt
  zero : i.zero = some z
  zsize : z.cells.size = es
  lo : 1 ≤ bt
  hi : bt ≤ 65536

set_option maxHeartbeats 1000000 in
/-- 'append' within the capacity. -/
theorem run_append_in {t1 t2 ty e : TypeId} {es bt : Nat} {i : TypeInfo} {z : Value} (T : AppT x.P t1 t2 es bt e i z) {base : Option Addr} {sLen sCap n : Nat} {xv : Value} {vs : List Value} (hl : (Builtin.lenOf xv).run x.P w = .ok n w)
    (hf : (Builtin.firstCells es n xv).run x.P w = .ok vs.toArray w) (hle : sLen + n ≤ sCap) (hst : ∀ a, base = some a → (storeCells (a.add (sLen * es)) vs).run x.P w = .ok () w') (hno : base = none → w' = w) :
    (Builtin.append_ #[t1, t2] ty #[.slice base sLen sCap, xv]).run x.P w = .ok (.slice base (sLen + n) sCap) w' := by
  have hi := T.info
  have hs := T.size
  cases base with
  | none =>
    have := hno rfl
    subst this
    rcases T.u2 with hd | ⟨e', hd⟩ <;> simp [Builtin.append_, run_underlying T.u1, run_underlying hd, sizeOf, typeInfo, hi, hs, hl, hle, hf]
  | some a =>
    have hst' := hst a rfl
    rcases T.u2 with hd | ⟨e', hd⟩ <;> simp [Builtin.append_, run_underlying T.u1, run_underlying hd, sizeOf, typeInfo, hi, hs, hl, hle, hf, hst']

set_option maxHeartbeats 1000000 in
/-- 'append' beyond the capacity. -/
theorem run_append_out {t1 t2 ty e : TypeId} {es bt : Nat} {i : TypeInfo} {z : Value} (T : AppT x.P t1 t2 es bt e i z) {base : Option Addr} {sLen sCap n : Nat} {xv : Value} {vs os : List Value} (hl : (Builtin.lenOf xv).run x.P w = .ok n w)
    (hf : (Builtin.firstCells es n xv).run x.P w.drew = .ok vs.toArray w.drew) (ho : (Builtin.firstCells es sLen (.slice base sLen sCap)).run x.P w.drew = .ok os.toArray w.drew) (hgt : sCap < sLen + n) (hroom : (sLen + n) * bt ≤ room) :
    (Builtin.append_ #[t1, t2] ty #[.slice base sLen sCap, xv]).run x.P w =
      .ok (.slice (some ⟨w.heap.size, 0, none⟩) (sLen + n) (grownCap w (sLen + n) sCap e)) (w.drew.alloc (.cells ((os ++ vs).toArray ++ Builtin.zeroCells z.cells (grownCap w (sLen + n) sCap e - (sLen + n))) e)) := by
  have hlo := T.lo
  have hhi := T.hi
  have hn : sLen + n ≤ room := Nat.le_trans (Nat.le_mul_of_pos_right _ T.lo) hroom
  have hcap := nextcap_le hgt
  have hb : ¬ (Builtin.nextslicecap (sLen + n) sCap * bt > 2 ^ 48) := by
    have h1 : Builtin.nextslicecap (sLen + n) sCap * bt ≤ (2 * (sLen + n) + 256) * bt := Nat.mul_le_mul_right _ hcap
    have h2 : (2 * (sLen + n) + 256) * bt = 2 * ((sLen + n) * bt) + 256 * bt := by rw [Nat.add_mul, Nat.mul_assoc]
    unfold room at hroom
    omega
  have hnle : ¬ (sLen + n ≤ sCap) := by omega
  have hi := T.info
  have hs := T.size
  have hz := T.zero
  have hb1 : ¬ (i.bytes = 0) := by rw [T.bytes]; omega
  have hb2 : ¬ (281474976710656 < Builtin.nextslicecap (sLen + n) sCap * i.bytes) := by rw [T.bytes]; exact hb
  rcases T.u2 with hd | ⟨e', hd⟩ <;> simp [Builtin.append_, run_underlying T.u1, run_underlying hd, sizeOf, typeInfo, zeroValue, hi, hs, hz, hl, hnle, hf, ho, hb1, hb2, Question.forced, newRow, grownCap] <;>
    (rw [← Array.append_assoc]; simp)

theorem Vals.append {l m : List V} {us vs : List Value} (h1 : Vals E l us) (h2 : Vals E m vs) : Vals E (l ++ m) (us ++ vs) := by
  refine ⟨by simp [h1.1, h2.1], fun j u hu => ?_⟩
  rcases Nat.lt_or_ge j us.length with hj | hj
  · rw [List.getElem?_append_left hj] at hu
    refine ⟨(h1.2 j u hu).1, fun y hy => (h1.2 j u hu).2 y ?_⟩
    rwa [List.getElem?_append_left (by rw [← h1.1]; exact hj)] at hy
  · rw [List.getElem?_append_right hj] at hu
    refine ⟨(h2.2 _ u hu).1, fun y hy => (h2.2 _ u hu).2 y ?_⟩
    rwa [List.getElem?_append_right (by rw [← h1.1]; exact hj), ← h1.1] at hy

/-- The new row of an append. -/
theorem app_new {t1 t2 ty e : TypeId} {es bt : Nat} {i : TypeInfo} {z : Value} {ag : Bool} {kt : Option TypeId} (hkt : ∀ T, kt = some T → T = e) (T : AppT x.P t1 t2 es bt e i z) {h' : Hp} {E' : Env} (H' : SR w0 E' h' w) (hE : Le E E') {base : Option Addr} {sLen sCap n : Nat} {xv : Value} {vs os : List Value} {ys old : List V}
    (hl : (Builtin.lenOf xv).run x.P w = .ok n w) (hf : (Builtin.firstCells es n xv).run x.P w.drew = .ok vs.toArray w.drew) (ho : (Builtin.firstCells es sLen (.slice base sLen sCap)).run x.P w.drew = .ok os.toArray w.drew)
    (hgt : sCap < sLen + n) (hroom : (sLen + n) * bt ≤ room) (hv : Vals E ys vs) (hov : Vals E old os) (hyl : ys.length = n * es) (hol : old.length = sLen * es) :
    ∃ u E'' w', Le E E'' ∧ (Builtin.append_ #[t1, t2] ty #[.slice base sLen sCap, xv]).run x.P w = .ok u w' ∧ VR E'' (.sl h'.length 0 (sLen + n) (sLen + n) false es ag) u ∧ SR w0 E'' (h' ++ [some (.cells (old ++ ys) kt)]) w' := by
  have hr := run_append_out (ty := ty) T hl hf ho hgt hroom
  have hcap := grownCap_ge w (sLen + n) sCap e
  generalize hG : grownCap w (sLen + n) sCap e = G at *
  have hHd := H'.drew
  have hsz : ((os ++ vs).toArray ++ Builtin.zeroCells z.cells (G - (sLen + n))).size = G * es := by
    rw [Array.size_append, zeroCells_size, T.zsize]
    simp only [List.size_toArray, List.length_append, hov.1, hv.1, hyl, hol]
    rw [Nat.sub_mul, Nat.add_mul]
    have : (sLen + n) * es ≤ G * es := Nat.mul_le_mul_right _ hcap
    rw [Nat.add_mul] at this
    omega
  refine ⟨_, _, _, hE.trans (Le.add E' (newLoc w.drew _)), hr, ?_, hHd.newCellsT (Made.alloc w.drew _ e) (TyR.alloc _ _ _ hkt) ((hov.append hv).mono hE) (fun j u hu => ?_)⟩
  · exact VR.newSl hHd (sLen + n) G (sLen + n) _ false es ag (Nat.le_refl _) hcap (by simp) (by rw [hsz]; exact Nat.le_refl _)
  · rw [Array.getElem?_append_left (by
      rcases Nat.lt_or_ge j (os ++ vs).length with h' | h'
      · simpa using h'
      · rw [List.getElem?_eq_none h'] at hu; cases hu)]
    simpa using hu

theorem does_app {t1 t2 ty e : TypeId} {es bt : Nat} {i : TypeInfo} {z : Value} {ag : Bool} {kt : Option TypeId} (hkt : ∀ T, kt = some T → T = e) (T : AppT x.P t1 t2 es bt e i z) (H : SR w0 E h w) {s a : V} {su au : Value} {n : Nat} {ys : List V} {rz : Rz} (hs : VR E s su) (ha : VR E a au)
    (hsrc : src h es a = some (n, ys)) (hap : appV h es bt ag kt s n ys = some rz) :
    Does x w0 E w ((do pure (.value (← Builtin.append_ #[t1, t2] ty #[su, au])) : Sem Next).run x.P w) (some rz) := by
  obtain ⟨hl, hyl, vs, hv, hf⟩ := src_spec (x := x) H ha hsrc
  obtain ⟨_, _, vs2, hv2, hf2⟩ := src_spec (x := x) H.drew ha hsrc
  have hf1 := hf n (Nat.le_refl _)
  have hf3 := hf2 n (Nat.le_refl _)
  rw [List.take_of_length_le (by rw [hv.1, hyl]; exact Nat.le_refl _)] at hf1
  rw [List.take_of_length_le (by rw [hv2.1, hyl]; exact Nat.le_refl _)] at hf3
  have fin : ∀ {u : Value} {w' : World} {E' : Env} {v : V} {h' : Hp}, Le E E' → (Builtin.append_ #[t1, t2] ty #[su, au]).run x.P w = .ok u w' → VR E' v u → SR w0 E' h' w' →
      Does x w0 E w ((do pure (.value (← Builtin.append_ #[t1, t2] ty #[su, au])) : Sem Next).run x.P w) (some (.val v h')) := fun hE hr hvr hsr =>
    ⟨_, _, _, hE, by simp only [Sem.run_bind, hr, Result.andThen_ok]; rfl, hvr, hsr⟩
  unfold appV at hap
  split at hap
  · -- nil
    cases hs
    split at hap
    · rename_i hn
      cases hap
      subst hn
      refine fin (Le.refl E) (run_append_in (ty := ty) T hl hf1 (Nat.le_refl _) (fun a h => by cases h) (fun _ => rfl)) .nsl H
    · split at hap
      · rename_i hn hroom
        cases hap
        obtain ⟨u, E', w', hE, hr, hvr, hsr⟩ := app_new (ty := ty) (ag := ag) hkt T H (Le.refl E) (base := none) (sLen := 0) (sCap := 0) (os := []) (old := []) hl hf3 (by simp [Builtin.firstCells]) (by omega) (by simpa using hroom) hv2 ⟨rfl, fun j u hu => by simp at hu⟩ hyl (by simp)
        simp only [Nat.zero_add, List.nil_append] at hvr hsr
        exact fin hE hr hvr hsr
      · cases hap
  · -- frozen
    rename_i ex xs
    split at hap
    · rename_i hn
      cases hap
      subst hn
      cases hs with
      | lst _ _ es' ad b p cap vals hc hex hes hne g1 g2 g3 =>
        have hvs : vs = [] := List.eq_nil_of_length_eq_zero (by rw [hv.1, hyl]; simp)
        subst hvs
        exact fin (Le.refl E) (run_append_in (ty := ty) (w' := w) T hl hf1 (by simpa using hc) (fun a _ => rfl) (fun _ => rfl)) (.lst ex xs es' ad b p cap vals hc hex hes hne g1 g2 g3) H
    · split at hap
      · rename_i hn hcond
        cases hap
        obtain ⟨hex', hall, hroom⟩ := hcond
        have hsl : src h es (.lst ex xs) = some (xs.length, flat xs) := by simp only [src]; rw [if_pos hall]
        obtain ⟨_, hxl, os, hov, hof⟩ := src_spec (x := x) H.drew hs hsl
        have hof1 := hof xs.length (Nat.le_refl _)
        rw [List.take_of_length_le (by rw [hov.1, hxl]; exact Nat.le_refl _)] at hof1
        cases hs with
        | lst _ _ es' ad b p cap vals hc hex hes hne g1 g2 g3 =>
          obtain ⟨u, E', w', hE, hr, hvr, hsr⟩ := app_new (ty := ty) (ag := ag) hkt T H (Le.refl E) (base := some ad) (sLen := xs.length) (sCap := cap) hl hf3 hof1 (by rw [hex hex']; omega) hroom hv2 hov hyl hxl
          exact fin hE hr hvr hsr
      · cases hap
  · -- live
    rename_i b off len cap ex es' ag'
    split at hap
    · cases hap
    · rename_i hsame
      have he : es' = es ∧ ag' = ag := by
        refine ⟨?_, ?_⟩
        · rcases Nat.decEq es' es with h | h
          · exact absurd (Or.inl h) hsame
          · exact h
        · by_cases h : ag' = ag
          · exact h
          · exact absurd (Or.inr h) hsame
      obtain ⟨rfl, rfl⟩ := he
      split at hap
      · rename_i hle
        simp only [Option.map_eq_some_iff] at hap
        obtain ⟨h', hw, rfl⟩ := hap
        obtain ⟨l, hm, hsr, hst⟩ := H.write (P := x.P) hw hv
        cases hs with
        | sl _ _ _ _ _ _ _ ad cap' hn hl' hc hex hh =>
          obtain ⟨q1, q2⟩ := hh l hm
          refine fin (Le.refl E) (run_append_in (ty := ty) T hl hf1 (by omega) (fun a hae => ?_) (fun h => by cases h)) (.sl _ _ _ _ _ _ _ _ _ hn hle hc hex hh) hsr
          cases hae
          rcases q1 with q1 | q1
          · have : vs = [] := List.eq_nil_of_length_eq_zero (by rw [hv.1, hyl]; have : n = 0 := by omega
                                                                rw [this]; simp)
            subst this
            rfl
          · rw [q1, Addr.add_none, Nat.add_assoc]; exact hst
      · rename_i hgt
        split at hap
        · rename_i hroom
          split at hap
          · rename_i old hold
            cases hap
            have hn0 : 0 < n := by
              cases hs with
              | sl _ _ _ _ _ _ _ ad cap' hn hl' hc hex hh => omega
            obtain ⟨cs, ty0, hg⟩ : ∃ cs ty0, hget h b = some (.cells cs ty0) := by
              simp only [rd] at hold
              split at hold
              · rename_i cs ty0 hg; exact ⟨cs, ty0, hg⟩
              · cases hold
            have hsub : sub cs off (len * es') = some old := by simp only [rd, hg] at hold; exact hold
            obtain ⟨l, hm, hb⟩ := H.live hg
            have hsl : src h es' (.sl b off len cap ex es' ag') = some (len, old) := by simp [src, hold]
            obtain ⟨_, hxl, os, hov, hof⟩ := src_spec (x := x) H.drew hs hsl
            have hof1 := hof len (Nat.le_refl _)
            rw [List.take_of_length_le (by rw [hov.1, hxl]; exact Nat.le_refl _)] at hof1
            cases hs with
            | sl _ _ _ _ _ _ _ ad cap' hn hl' hc hex hh =>
              obtain ⟨q1, q2⟩ := hh l hm
              by_cases hin : len + n ≤ cap'
              · -- the machine had room
                have hexf : ex = false := by
                  cases ex with
                  | false => rfl
                  | true => have := hex rfl; omega
                subst hexf
                have had : ad = ⟨l.b, l.base + off, none⟩ := q1.resolve_left (by omega)
                subst had
                have hown : ∀ j, j < vs.length → l.own l.b (l.base + off + len * es' + j) := fun j hj => by
                  have h1 : len * es' + j < cap' * es' := by
                    rw [hv.1, hyl] at hj
                    have : (len + n) * es' ≤ cap' * es' := Nat.mul_le_mul_right _ hin
                    rw [Nat.add_mul] at this
                    omega
                  have := q2 (len * es' + j) h1
                  rwa [show l.base + off + (len * es' + j) = l.base + off + len * es' + j by omega] at this
                have hd := H.dirty hg hm (l.base + off + len * es') vs hown
                obtain ⟨hT0, hB, hlt, hownc, hcs⟩ := hb
                have hst := run_storeCells_cells (P := x.P) l.b (l.base + off + len * es') vs 0 w (fun j hj => (hownc _ _ (hown j hj)).2.1) (fun j hj => (hownc _ _ (hown j hj)).2.2) (fun v hv' => by
                  obtain ⟨j, hj, rfl⟩ := List.getElem_of_mem hv'
                  exact (hv.2 j _ (List.getElem?_eq_getElem hj)).1)
                have hr := run_append_in (ty := ty) (base := some ⟨l.b, l.base + off, none⟩) T hl hf1 hin (fun a hae => by cases hae; rw [Addr.add_none]; exact hst) (fun h => by cases h)
                simp only [Nat.add_zero] at hr
                have hlen2 : (h.set b none).length = (E.kill b).n := hd.len
                let loc : Loc := ⟨l.b, l.base + off, l.own⟩
                have hlo : ∀ b' o, loc.own b' o → l.own b' o := fun b' o h1 => h1
                obtain ⟨os2, hrow⟩ := BR.row (l := l) (w := w) (B := w0.heap.size) (E := E) (ty := ty0) ⟨hT0, hB, hlt, hownc, hcs⟩ hsub
                have hsome : ∀ j, j < vs.length → (w.cell? ⟨l.b, l.base + off + len * es' + j, none⟩).isSome = true := fun j hj => (hownc _ _ (hown j hj)).2.1
                have hcell : ∀ (j : Nat) u, (os2 ++ vs)[j]? = some u → (w.setCells l.b (l.base + off + len * es') vs).cell? ⟨l.b, l.base + off + j, none⟩ = some u := fun j u hu => by
                  rcases Nat.lt_or_ge j os2.length with hj | hj
                  · rw [List.getElem?_append_left hj] at hu
                    rw [World.cell?_setCells_out _ _ _ _ _ (fun _ _ => .inl (by simp only; rw [hrow.1, hxl] at hj; omega))]
                    exact (hrow.2 j u hu).1
                  · rw [List.getElem?_append_right hj] at hu
                    have hj2 : j - os2.length < vs.length := (List.getElem?_eq_some_iff.1 hu).1
                    have := World.cell?_setCells_in l.b vs (l.base + off + len * es') w hsome (j - os2.length) hj2
                    rw [List.getElem?_eq_getElem hj2] at hu
                    cases hu
                    rw [← this]
                    congr 2
                    rw [hrow.1, hxl]
                    rw [hrow.1, hxl] at hj
                    omega
                have hvals : Vals ((E.kill b).add loc) (old ++ ys) (os2 ++ vs) := (hrow.vals.append hv).mono ((Le.kill E b).trans (Le.add _ _))
                have hsr : SR w0 ((E.kill b).add loc) (h.set b none ++ [some (.cells (old ++ ys) (appTy h false b off kt))]) (w.setCells l.b (l.base + off + len * es') vs) := by
                  refine hd.adopt loc (.cells (old ++ ys) (appTy h false b off kt)) ⟨fun T' hT' => ?_, hB, by rw [size_setCells]; exact hlt, fun b' o ho => ?_, fun j hj => ?_⟩ (fun β l' b' o hm' o1 o2 => ?_) (fun b' o ho => ?_) (fun b' o ho hod => (H.old b' o hod).2.2 b l hm (hlo b' o ho)) (by
                    cases hh : E.hid l.b with
                    | none => exact hh
                    | some o => exact ((H.hid _ o hh).2.2 b l hm rfl).elim)
                  · simp only [appTy, Bool.false_eq_true, if_false] at hT'
                    split at hT'
                    · rename_i hc0
                      obtain ⟨ho0, hty0⟩ := hc0
                      simp only [bty, hg] at hty0
                      obtain ⟨h1, m, h2, h3⟩ := hT0 T' (hty0.trans hT')
                      exact ⟨by simp only [loc]; omega, m, by rw [shape_setCells]; exact h2, h3⟩
                    · cases hT'
                  · have h1 := hownc b' o (hlo b' o ho)
                    refine ⟨h1.1, ?_, by rw [World.frozen?_setCells]; exact h1.2.2⟩
                    have hbb := h1.1
                    subst hbb
                    by_cases hc2 : l.base + off + len * es' ≤ o ∧ o < l.base + off + len * es' + vs.length
                    · have := World.cell?_setCells_in l.b vs (l.base + off + len * es') w hsome (o - (l.base + off + len * es')) (by omega)
                      rw [show l.base + off + len * es' + (o - (l.base + off + len * es')) = o by omega] at this
                      rw [this]; rfl
                    · rw [World.cell?_setCells_out _ _ _ _ _ (fun _ _ => by simp only; omega)]; exact h1.2.1
                  · have hj2 : j < (os2 ++ vs).length := by rw [hvals.1]; exact hj
                    refine ⟨?_, (os2 ++ vs)[j], hcell j _ (List.getElem?_eq_getElem hj2), (hvals.2 j _ (List.getElem?_eq_getElem hj2)).2 _ (List.getElem?_eq_getElem hj), (hvals.2 j _ (List.getElem?_eq_getElem hj2)).1⟩
                    rw [List.length_append, hxl, hyl] at hj
                    have : (len + n) * es' ≤ cap' * es' := Nat.mul_le_mul_right _ hin
                    rw [Nat.add_mul] at this
                    exact q2 j (by omega)
                  · have hm2 : E.mu β = some l' ∧ β ≠ b := by
                      simp only [Env.kill] at hm'
                      split at hm'
                      · cases hm'
                      · rename_i hne; exact ⟨hm', hne⟩
                    exact hm2.2 (H.dis β b l' l b' o hm2.1 hm o1 (hlo b' o o2))
                  · exact H.dfr b l b' o hm (hlo b' o ho)
                refine fin ((Le.kill E b).trans (Le.add _ loc)) hr ?_ hsr
                have hbn : (h.set b none).length = h.length := by simp
                have hlt3 : h.length < ((E.kill b).add loc).n := by rw [← hbn, hlen2]; simp [Env.add]
                simp only [Bool.false_eq_true, if_false, hbn]
                exact .sl _ _ _ _ _ _ _ _ _ hlt3 (Nat.le_refl _) hin (by simp) fun l2 hl2 => by
                  have e1 : h.length = (E.kill b).n := by rw [← hbn]; exact hlen2
                  simp only [Env.add, e1, if_pos] at hl2
                  cases hl2
                  exact ⟨.inr (by simp [loc]), fun j hj => by simpa [loc] using q2 j hj⟩
              · -- the machine made a new row
                cases ex with
                | true =>
                  obtain ⟨u, E', w', hE, hr, hvr, hsr⟩ := app_new (ty := ty) (ag := ag') (kt := appTy h true b off kt) hkt T H (Le.refl E) (base := some ad) (sLen := len) (sCap := cap') hl hf3 hof1 (by omega) hroom hv2 hov hyl hxl
                  exact fin hE hr hvr hsr
                | false =>
                  have hk := H.kill b
                  obtain ⟨u, E', w', hE, hr, hvr, hsr⟩ := app_new (ty := ty) (ag := ag') (kt := appTy h false b off kt) (fun T' hT' => hkt T' (by simp only [appTy, Bool.false_eq_true, if_false] at hT'; split at hT'; exact hT'; cases hT')) T hk (Le.kill E b) (base := some ad) (sLen := len) (sCap := cap') hl hf3 hof1 (by omega) hroom hv2 hov hyl hxl
                  exact fin hE hr hvr hsr
          · cases hap
        · cases hap
  · cases hap
end
end Go.Vs
namespace Go.Vs
open Go.RowKit
set_option linter.unusedSimpArgs false
set_option linter.unusedVariables false

section
variable {w0 w w' : World} {E : Env} {h : Hp} {x : X}

theorem Vals.take {l : List V} {vs : List Value} (hv : Vals E l vs) (n : Nat) : Vals E (l.take n) (vs.take n) := by
  have := hv.slice 0 n
  simpa using this

theorem does_cpy {t1 t2 ty e : TypeId} {es n len b off cap : Nat} {ex ag : Bool} {a : V} {au du : Value} {ys : List V} {h' : Hp} (H : SR w0 E h w) (hu : x.P.underlying t1 = some (.slice e)) (hs : tSize x.P e = some es) (hd : VR E (.sl b off len cap ex es ag) du)
    (ha : VR E a au) (hsrc : src h es a = some (n, ys)) (hw : wr h b off (ys.take (Min.min n len * es)) = some h') :
    Does x w0 E w ((do pure (.value (← Builtin.copy_ #[t1, t2] ty #[du, au])) : Sem Next).run x.P w) (some (.val (.int .i64 (Min.min n len : Nat)) h')) := by
  obtain ⟨hl, hyl, vs, hv, hf⟩ := src_spec (x := x) H ha hsrc
  have hf1 := hf (Min.min n len) (Nat.min_le_left _ _)
  obtain ⟨l, hm, hsr, hst⟩ := H.write (P := x.P) hw (hv.take _)
  cases hd with
  | sl _ _ _ _ _ _ _ ad cap' hn hl' hc hex hh =>
    obtain ⟨q1, q2⟩ := hh l hm
    refine ⟨_, E, _, Le.refl E, ?_, .int _ _, hsr⟩
    have hst' : (storeCells ad (vs.take (Min.min n len * es))).run x.P w = .ok () (w.setCells l.b (l.base + off) (vs.take (Min.min n len * es))) := by
      rcases q1 with q1 | q1
      · have h0 : vs.take (Min.min n len * es) = [] := by
          have : len = 0 := by omega
          subst this; simp
        rw [h0]; rfl
      · rw [q1]; exact hst
    have hmin : Nat.min n len = Min.min n len := rfl
    simp [Builtin.copy_, run_underlying hu, run_size hs, hl, hmin, hf1, hst', goInt]

theorem does_cpy_nil {t1 t2 ty e : TypeId} {es n : Nat} {a : V} {au : Value} {ys : List V} (H : SR w0 E h w) (hu : x.P.underlying t1 = some (.slice e)) (hs : tSize x.P e = some es) (ha : VR E a au) (hsrc : src h es a = some (n, ys)) :
    Does x w0 E w ((do pure (.value (← Builtin.copy_ #[t1, t2] ty #[.slice none 0 0, au])) : Sem Next).run x.P w) (some (.val (.int .i64 0) h)) := by
  obtain ⟨hl, hyl, vs, hv, hf⟩ := src_spec (x := x) H ha hsrc
  have hf1 := hf 0 (Nat.zero_le _)
  refine Does.same H ?_ (.int _ _)
  have hmin : Nat.min n 0 = 0 := Nat.min_eq_right (Nat.zero_le _)
  simp [Builtin.copy_, run_underlying hu, run_size hs, hl, hmin, hf1, goInt]

theorem zeroVals {z : Value} {zs : List V} (hz : Vals E zs z.cells.toList) (n : Nat) : Vals E (List.replicate n zs).flatten (Builtin.zeroCells z.cells n).toList := by
  have hsz : z.cells.size = zs.length := by simpa using hz.1
  refine ⟨by simp [Builtin.zeroCells, hsz], fun j u hu => ?_⟩
  simp only [Builtin.zeroCells, Array.toList_map, Array.toList_range, List.getElem?_map] at hu
  cases hj : (List.range (n * z.cells.size))[j]? with
  | none => rw [hj] at hu; cases hu
  | some i =>
    rw [hj] at hu
    have hij : i = j ∧ j < n * z.cells.size := by
      rcases Nat.lt_or_ge j (n * z.cells.size) with h' | h'
      · rw [List.getElem?_range h'] at hj; cases hj; exact ⟨rfl, h'⟩
      · rw [List.getElem?_eq_none (by simpa using h')] at hj; cases hj
    obtain ⟨rfl, hlt⟩ := hij
    have hpos : 0 < z.cells.size := by
      rcases Nat.eq_zero_or_pos z.cells.size with h0 | h0
      · rw [h0] at hlt; simp at hlt
      · exact h0
    have hmod : i % z.cells.size < z.cells.size := Nat.mod_lt _ hpos
    simp only [Option.map_some, Option.some.injEq] at hu
    rw [getElem!_pos z.cells _ hmod] at hu
    have h2 := hz.2 (i % z.cells.size) u (by rw [← hu]; simp [hmod])
    refine ⟨h2.1, fun y hy => h2.2 y ?_⟩
    have key : ∀ (n i : Nat), i < n * zs.length → (List.replicate n zs).flatten[i]? = zs[i % zs.length]? := by
      intro n
      induction n with
      | zero => intro i hi; simp at hi
      | succ n ih =>
        intro i hi
        rw [List.replicate_succ, List.flatten_cons]
        rcases Nat.lt_or_ge i zs.length with h' | h'
        · rw [List.getElem?_append_left h', Nat.mod_eq_of_lt h']
        · rw [List.getElem?_append_right h', ih (i - zs.length) (by rw [Nat.succ_mul] at hi; omega), Nat.mod_eq_sub_mod h']
    rw [hsz]
    rw [← key n i (by rw [← hsz]; exact hlt)]
    exact hy

theorem does_clr {t ty e : TypeId} {z : Value} {zs : List V} {b off len cap es : Nat} {ex ag : Bool} {du : Value} {h' : Hp} (H : SR w0 E h w) (hu : x.P.underlying t = some (.slice e)) (hz : tZero x.P e = some z) (hc : ckVs z.cells.toList zs = true)
    (hd : VR E (.sl b off len cap ex es ag) du) (h0 : len ≠ 0) (hw : wr h b off (List.replicate len zs).flatten = some h') :
    Does x w0 E w ((do pure (.value (← Builtin.clear_ #[t] ty #[du])) : Sem Next).run x.P w) (some (.val (.tup []) h')) := by
  obtain ⟨l, hm, hsr, hst⟩ := H.write (P := x.P) hw (zeroVals (ckVs_spec hc) len)
  cases hd with
  | sl _ _ _ _ _ _ _ ad cap' hn hl' hcap hex hh =>
    obtain ⟨q1, q2⟩ := hh l hm
    have had : ad = ⟨l.b, l.base + off, none⟩ := q1.resolve_left (by omega)
    subst had
    obtain ⟨len, rfl⟩ : ∃ k, len = k + 1 := ⟨len - 1, by omega⟩
    refine ⟨_, E, _, Le.refl E, ?_, .tup [] #[] rfl (fun j x v hx => by simp at hx), hsr⟩
    simp [Builtin.clear_, run_underlying hu, run_zero hz, hst]

theorem does_clr0 {t ty e : TypeId} {a : V} {du : Value} (H : SR w0 E h w) (hu : x.P.underlying t = some (.slice e)) (hd : VR E a du) (ha : a = .nsl ∨ ∃ b off cap ex es ag, a = .sl b off 0 cap ex es ag) :
    Does x w0 E w ((do pure (.value (← Builtin.clear_ #[t] ty #[du])) : Sem Next).run x.P w) (some (.val (.tup []) h)) := by
  refine Does.same (u := .tuple #[]) H ?_ (.tup [] #[] rfl (fun j x v hx => by simp at hx))
  rcases ha with rfl | ⟨b, off, cap, ex, es, ag, rfl⟩ <;> cases hd <;> simp [Builtin.clear_, run_underlying hu]

theorem does_arrp {t e : TypeId} {n es : Nat} {a v : V} {u : Value} (H : SR w0 E h w) (hu : x.P.underlying t = some (.array n e)) (ha : VR E a u)
    (hv : (∃ b off len cap ex ag, a = .sl b off len cap ex es ag ∧ n ≤ len ∧ 0 < n ∧ v = .ptr b off) ∨ (∃ ex xs, a = .lst ex xs ∧ n ≤ xs.length ∧ 0 < n ∧ v = .fp (flat xs) 0)) :
    Does x w0 E w ((do pure (.value (← Instr.arrayAt t u)) : Sem Next).run x.P w) (some (.val v h)) := by
  rcases hv with ⟨b, off, len, cap, ex, ag, rfl, hle, hn, rfl⟩ | ⟨ex, xs, rfl, hle, hn, rfl⟩
  · cases ha with
    | sl _ _ _ _ _ _ _ ad cap' hnn hl' hcap hex hh =>
      refine Does.same (u := .pointer (some ad)) H ?_ (.ptr b off ad hnn fun l hl => ?_)
      · simp only [Instr.arrayAt, Sem.run_bind, run_underlying hu, Result.andThen_ok, Sem.run_ite]
        rw [if_neg (by omega)]; rfl
      · obtain ⟨q1, _⟩ := hh l hl
        exact q1.resolve_left (by omega)
  · cases ha with
    | lst _ _ es' ad b p cap vals hc hex hes hne g1 g2 g3 =>
      have had := hne (by intro e; rw [e] at hle; simp at hle; omega)
      subst had
      refine Does.same (u := .pointer (some ⟨b, p, none⟩)) H ?_ ?_
      · simp only [Instr.arrayAt, Sem.run_bind, run_underlying hu, Result.andThen_ok, Sem.run_ite]
        rw [if_neg (by omega)]; rfl
      · have := VR.fp (E := E) (flat xs) 0 b p vals g1 g2 g3
        simpa using this

theorem does_mksl {t e : TypeId} {z : Value} {zs : List V} {es bt : Nat} {ag : Bool} {i : TypeInfo} {l c : Int} (H : SR w0 E h w) (hu : x.P.underlying t = some (.slice e)) (hi : x.P.info? e = some i) (hz : i.zero = some z) (hsz : i.size = es) (hbt : i.bytes = bt) (hzs : z.cells.size = es)
    (hc : ckVs z.cells.toList zs = true) (h0 : 0 ≤ l) (h1 : l ≤ c) (h2 : c * bt ≤ room) (h3 : c ≤ room) :
    Does x w0 E w ((do pure (.value (← Instr.makeSlice t (.int .i64 l) (.int .i64 c))) : Sem Next).run x.P w)
      (some (.val (.sl h.length 0 l.toNat c.toNat true es ag) (h ++ [some (.cells (List.replicate c.toNat zs).flatten)]))) := by
  have hwrap : ∀ n : Int, 0 ≤ n → n ≤ room → IntKind.i64.wrap n = n := fun n a b => by
    unfold room at b
    rw [IntKind.wrap]
    simp [IntKind.bits, IntKind.signed]
    omega
  have wl := hwrap l h0 (by omega)
  have wc := hwrap c (by omega) h3
  have n1 : ¬ (c < 0) := by omega
  have n2 : ¬ (281474976710656 < (bt : Int) * c) := by rw [Int.mul_comm]; unfold room at h2; omega
  have n3 : ¬ (l < 0) := by omega
  have n4 : ¬ (c < l) := by omega
  have hrow : ∃ us : Array Value, us.toList = (Builtin.zeroCells z.cells c.toNat).toList ∧ ((do let zero ← (if c.toNat * es = 0 then pure #[] else do pure (← zeroValue e).cells : Sem (Array Value)); pure ((Array.range (c.toNat * es)).map (zero[· % zero.size]!)) : Sem (Array Value)).run x.P w = .ok us w) := by
    have hzz : tZero x.P e = some z := by simp [tZero, hi, hz]
    by_cases hn : c.toNat * es = 0
    · exact ⟨#[], by simp [Builtin.zeroCells, hzs, hn], by simp [hn]⟩
    · exact ⟨(Array.range (c.toNat * es)).map (fun i => z.cells[i % es]!), by simp [Builtin.zeroCells, hzs], by simp [hn, run_zero hzz, hzs]⟩
  obtain ⟨us, hus, hrun⟩ := hrow
  have hussz : us.size = c.toNat * es := by
    have := congrArg List.length hus
    simpa [zeroCells_size, hzs] using this
  have hr : (Instr.makeSlice t (.int .i64 l) (.int .i64 c)).run x.P w = .ok (.slice (some ⟨w.heap.size, 0, none⟩) l.toNat c.toNat) (w.alloc (.cells us e)) := by
    have hzz : tZero x.P e = some z := by simp [tZero, hi, hz]
    by_cases hn : c.toNat * es = 0
    · have hu0 : us = #[] := by apply Array.eq_empty_of_size_eq_zero; rw [hussz, hn]
      subst hu0
      simp [Instr.makeSlice, run_underlying hu, asInt, asIntOf, typeInfo, hi, hbt, wl, wc, n1, n2, n3, n4, sizeOf, hsz, hn, newRow]
      have e0 : (Array.map (fun (_ : Nat) => (default : Value)) (Array.range 0)) = #[] := by simp
      rw [e0]
    · simp only [hn, if_false] at hrun
      simp only [Sem.run_bind, run_zero hzz, Result.andThen_ok, Sem.run_pure, Result.ok.injEq, and_true] at hrun
      simp [Instr.makeSlice, run_underlying hu, asInt, asIntOf, typeInfo, hi, hbt, wl, wc, n1, n2, n3, n4, sizeOf, hsz, hn, run_zero hzz, newRow, hrun]
  refine ⟨_, E.add (newLoc w us.size), _, Le.add _ _, by simp only [Sem.run_bind, hr, Result.andThen_ok]; rfl, VR.newSl H _ _ _ _ _ _ _ (by omega) (Nat.le_refl _) (fun _ => rfl) (by rw [hussz]; exact Nat.le_refl _), ?_⟩
  have hv := zeroVals (E := E) (z := z) (ckVs_spec hc) c.toNat
  rw [← hus] at hv
  exact H.newCells (Made.alloc w us e) hv (fun j u hu => by simpa using hu)

theorem does_mkz {t e : TypeId} {z : Value} {zs : List V} {es bt : Nat} {ag : Bool} {i : TypeInfo} {l c : Int} (H : SR w0 E h w) (hu : x.P.underlying t = some (.slice e)) (hi : x.P.info? e = some i) (hz : i.zero = some z) (hsz : i.size = es) (hbt : i.bytes = bt) (hzs : z.cells.size = es) (hag : ag = false → es = 1)
    (hc : ckVs z.cells.toList zs = true) (h0 : 0 ≤ l) (h1 : c ≤ l ∧ l ≤ c) (h2 : c * bt ≤ room) (h3 : c ≤ room) :
    Does x w0 E w ((do pure (.value (← Instr.makeSlice t (.int .i64 l) (.int .i64 c))) : Sem Next).run x.P w)
      (some (.val (.lst true (chunk es ag c.toNat (List.replicate c.toNat zs).flatten)) h)) := by
  obtain ⟨h1', h1⟩ := h1
  have hwrap : ∀ n : Int, 0 ≤ n → n ≤ room → IntKind.i64.wrap n = n := fun n a b => by
    unfold room at b
    rw [IntKind.wrap]
    simp [IntKind.bits, IntKind.signed]
    omega
  have wl := hwrap l h0 (by omega)
  have wc := hwrap c (by omega) h3
  have n1 : ¬ (c < 0) := by omega
  have n2 : ¬ (281474976710656 < (bt : Int) * c) := by rw [Int.mul_comm]; unfold room at h2; omega
  have n3 : ¬ (l < 0) := by omega
  have n4 : ¬ (c < l) := by omega
  have hrow : ∃ us : Array Value, us.toList = (Builtin.zeroCells z.cells c.toNat).toList ∧ ((do let zero ← (if c.toNat * es = 0 then pure #[] else do pure (← zeroValue e).cells : Sem (Array Value)); pure ((Array.range (c.toNat * es)).map (zero[· % zero.size]!)) : Sem (Array Value)).run x.P w = .ok us w) := by
    have hzz : tZero x.P e = some z := by simp [tZero, hi, hz]
    by_cases hn : c.toNat * es = 0
    · exact ⟨#[], by simp [Builtin.zeroCells, hzs, hn], by simp [hn]⟩
    · exact ⟨(Array.range (c.toNat * es)).map (fun i => z.cells[i % es]!), by simp [Builtin.zeroCells, hzs], by simp [hn, run_zero hzz, hzs]⟩
  obtain ⟨us, hus, hrun⟩ := hrow
  have hussz : us.size = c.toNat * es := by
    have := congrArg List.length hus
    simpa [zeroCells_size, hzs] using this
  have hr : (Instr.makeSlice t (.int .i64 l) (.int .i64 c)).run x.P w = .ok (.slice (some ⟨w.heap.size, 0, none⟩) l.toNat c.toNat) (w.alloc (.cells us e)) := by
    have hzz : tZero x.P e = some z := by simp [tZero, hi, hz]
    by_cases hn : c.toNat * es = 0
    · have hu0 : us = #[] := by apply Array.eq_empty_of_size_eq_zero; rw [hussz, hn]
      subst hu0
      simp [Instr.makeSlice, run_underlying hu, asInt, asIntOf, typeInfo, hi, hbt, wl, wc, n1, n2, n3, n4, sizeOf, hsz, hn, newRow]
      have e0 : (Array.map (fun (_ : Nat) => (default : Value)) (Array.range 0)) = #[] := by simp
      rw [e0]
    · simp only [hn, if_false] at hrun
      simp only [Sem.run_bind, run_zero hzz, Result.andThen_ok, Sem.run_pure, Result.ok.injEq, and_true] at hrun
      simp [Instr.makeSlice, run_underlying hu, asInt, asIntOf, typeInfo, hi, hbt, wl, wc, n1, n2, n3, n4, sizeOf, hsz, hn, run_zero hzz, newRow, hrun]
  have hv := zeroVals (E := E) (z := z) (ckVs_spec hc) c.toNat
  rw [← hus] at hv
  have hlc : l = c := by omega
  subst hlc
  refine ⟨_, E.ice w.heap.size us, _, Le.ice H us, by simp only [Sem.run_bind, hr, Result.andThen_ok]; rfl, ?_, H.newFrz (Made.alloc w us e)⟩
  refine VR.lst_of (b := w.heap.size) (p := 0) ?_ hag (hv.mono (Le.ice H us)) (fun j u hu => by simpa [Env.ice] using hu) (Nat.le_refl _) (fun _ => rfl) _ (fun _ => rfl)
  have := hv.1
  simp only [Array.length_toList] at this
  rw [← this, hussz]

set_option maxHeartbeats 1000000 in
theorem does_apm {t1 t2 ty e : TypeId} {k : IntKind} {es bt : Nat} {ag : Bool} {i : TypeInfo} {z : Value} {zs : List V} {n : Nat} (H : SR w0 E h w) (u1 : x.P.underlying t1 = some (.slice e)) (u2 : x.P.underlying t2 = some (.int k)) (hi : x.P.info? e = some i) (hsz : i.size = es) (hbt : i.bytes = bt)
    (hz : i.zero = some z) (hzs : z.cells.size = es) (hc : ckVs z.cells.toList zs = true) (lo : 1 ≤ bt) (hhi : bt ≤ 65536) (hes : 1 ≤ es) (h0 : 0 < n) (hroom : n * bt ≤ room) :
    Does x w0 E w ((do pure (.value (← Builtin.append_ #[t1, t2] ty #[.slice none 0 0, .int .i64 n])) : Sem Next).run x.P w) (some (newSl h n es ag (List.replicate n zs).flatten)) := by
  have hn : n ≤ room := Nat.le_trans (Nat.le_mul_of_pos_right _ lo) hroom
  have hwrap : IntKind.i64.wrap (n : Int) = n := by
    unfold room at hn
    rw [IntKind.wrap]
    simp [IntKind.bits, IntKind.signed]
    omega
  have hcap := nextcap_le (n := n) (o := 0) h0
  have hb : ¬ (281474976710656 < Builtin.nextslicecap n 0 * i.bytes) := by
    have h1 : Builtin.nextslicecap n 0 * bt ≤ (2 * n + 256) * bt := Nat.mul_le_mul_right _ hcap
    have h2 : (2 * n + 256) * bt = 2 * (n * bt) + 256 * bt := by rw [Nat.add_mul, Nat.mul_assoc]
    rw [hbt]
    unfold room at hroom
    omega
  have hb0 : ¬ (281474976710656 < (n : Int) * i.bytes) := by
    rw [hbt]
    unfold room at hroom
    rw [← Int.natCast_mul]
    omega
  have hmax : ¬ (9223372036854775807 < (n : Int)) := by unfold room at hn; omega
  have hn0 : ¬ (n : Int) < 0 := by omega
  have hn1 : ¬ n = 0 := by omega
  have hG := grownCap_ge w n 0 e
  have hne : ¬ n * es = 0 := fun e => by
    rcases Nat.mul_eq_zero.1 e with e | e <;> omega
  have hr : (Builtin.append_ #[t1, t2] ty #[.slice none 0 0, .int .i64 n]).run x.P w = .ok (.slice (some ⟨w.heap.size, 0, none⟩) n (grownCap w n 0 e)) (w.drew.alloc (.cells (Builtin.zeroCells z.cells n ++ Builtin.zeroCells z.cells (grownCap w n 0 e - n)) e)) := by
    simp [Builtin.append_, run_underlying u1, run_underlying u2, sizeOf, typeInfo, zeroValue, asInt, asIntOf, hi, hsz, hz, hwrap, hb, hb0, hmax, hn0, hn1, hne, Builtin.firstCells, Question.forced, newRow, grownCap]
  generalize hGG : grownCap w n 0 e = G at *
  have hz0 : (Builtin.zeroCells z.cells n ++ Builtin.zeroCells z.cells (G - n)).size = G * es := by
    rw [Array.size_append, zeroCells_size, zeroCells_size, hzs, ← Nat.add_mul, Nat.add_sub_cancel' hG]
  have hHd := H.drew
  have hv := zeroVals (E := E) (z := z) (ckVs_spec hc) n
  refine ⟨_, E.add (newLoc w.drew _), _, Le.add E _, by simp only [Sem.run_bind, hr, Result.andThen_ok]; rfl, VR.newSl hHd n G n _ false es ag (Nat.le_refl _) hG (by simp) (by rw [hz0]; exact Nat.le_refl _), hHd.newCells (Made.alloc w.drew _ e) hv (fun j u hu => ?_)⟩
  have hj : j < (Builtin.zeroCells z.cells n).size := by
    have := (List.getElem?_eq_some_iff.1 hu).1
    simpa using this
  rw [Array.getElem?_append_left hj]
  rw [Array.getElem?_toList] at hu
  exact hu

theorem does_slca {t e : TypeId} {n es l u m : Nat} {ag : Bool} {a v : V} {pu : Value} {lo hi mx : Option Value} (H : SR w0 E h w) (hu : x.P.underlying t = some (.array n e)) (hs : tSize x.P e = some es) (hag : ag = false → es = 1) (ha : VR E a pu)
    (hl : Bd w x.P lo 0 l) (hh : Bd w x.P hi n u) (hm : Bd w x.P mx n m) (h1 : l ≤ u) (h2 : u ≤ m) (h3 : m ≤ n) (hx : mx = none → m = n) (hy : mx ≠ none → hi ≠ none)
    (hv : (∃ b o, a = .ptr b o ∧ (rd h (.ptr b o) (n * es)).isSome = true ∧ v = .sl b (o + l * es) (u - l) (m - l) true es ag) ∨ (∃ cs o c, a = .fp cs o ∧ sub cs o (n * es) = some c ∧ v = .lst (u == m) (((chunk es ag n c).take u).drop l))) :
    Does x w0 E w ((do pure (.value (← Instr.sliceAt t pu lo hi mx)) : Sem Next).run x.P w) (some (.val v h)) := by
  have hb := run_bounds (P := x.P) (w := w) (isSlice := false) (len := n) (cap := n) hm hh hl h1 h2 h3 hx hy
  have hrun : ∀ ad : Addr, (Instr.sliceAt t (.pointer (some ad)) lo hi mx).run x.P w = .ok (.slice (some (if m = l then ad else ad.add (l * es))) (u - l) (m - l)) w := fun ad => by
    simp only [Instr.sliceAt, Sem.run_bind, run_underlying hu, Result.andThen_ok, Instr.sureAddr, Sem.run_pure, hb, run_size hs]
  rcases hv with ⟨b, o, rfl, hsome, rfl⟩ | ⟨cs, o, c, rfl, hsub, rfl⟩
  · cases ha with
    | ptr _ _ ad hn' had =>
      refine Does.same H (by simp only [Sem.run_bind, hrun, Result.andThen_ok]; rfl) (.sl _ _ _ _ _ _ _ _ _ hn' (by omega) (Nat.le_refl _) (fun _ => rfl) fun lc hlc => ?_)
      simp only [rd] at hsome
      split at hsome
      · rename_i cs ty0 hg
        obtain ⟨lc2, hm2, hbr⟩ := H.live hg
        rw [hlc] at hm2; cases hm2
        have hle : o + n * es ≤ cs.length := by
          unfold sub at hsome
          split at hsome
          · assumption
          · cases hsome
        have h5 : l * es + (m - l) * es ≤ n * es := by rw [← Nat.add_mul]; exact Nat.mul_le_mul_right _ (by omega)
        refine ⟨?_, fun j hj => ?_⟩
        · by_cases hml : m = l
          · left; omega
          · right; rw [if_neg hml, had lc hlc, Addr.add_none]; congr 1; omega
        · have := (hbr.2.2.2.2 (o + l * es + j) (by omega)).1
          rwa [show lc.base + (o + l * es + j) = lc.base + (o + l * es) + j by omega] at this
      · cases hsome
  · obtain ⟨b, p, vs, hpu, hrow⟩ := fp_row H ha hsub
    subst hpu
    have hlen := (sub_spec hsub).2.1
    -- the whole array as a frozen slice, then cut
    have hfz : ∀ (j : Nat) u, vs[j]? = some u → E.frz b (p + j) = some u := by
      cases ha with
      | fp _ _ b' p' vals g1 g2 g3 =>
        intro j u huj
        have hj : j < vs.length := (List.getElem?_eq_some_iff.1 huj).1
        rw [hrow.1, hlen] at hj
        have hle := (sub_spec hsub).1
        have := g1 (o + j) (by omega)
        rw [show p' + (o + j) = p' + o + j by omega] at this
        rw [this]
        have h1 := H.frz _ _ _ this
        have h2 := (hrow.2 j u huj).1
        rw [h1] at h2; exact h2
    have hone : ∀ y ∈ c, y.one = true := fun y hy => by
      obtain ⟨j, hj, rfl⟩ := List.getElem_of_mem hy
      have hjv : j < vs.length := by rw [hrow.1]; exact hj
      have := hrow.vals.2 j _ (List.getElem?_eq_getElem hjv)
      rw [← (this.2 _ (List.getElem?_eq_getElem hj)).one]; exact this.1
    obtain ⟨c1, c2, c3⟩ := chunk_spec es ag n c hlen hag hone
    obtain ⟨f1, f2⟩ := flat_take_drop (chunk es ag n c) c3 l u h1 (by rw [c1]; omega)
    have hlen2 : (((chunk es ag n c).take u).drop l).length = u - l := by simp [c1]; omega
    have hsubv : Vals E (flat (((chunk es ag n c).take u).drop l)) ((vs.drop (l * es)).take ((u - l) * es)) := by
      have hv := hrow.vals.slice (l * es) ((u - l) * es)
      have he : (c.drop (l * es)).take ((u - l) * es) = flat (((chunk es ag n c).take u).drop l) := by
        refine List.ext_getElem? fun j => ?_
        rcases Nat.lt_or_ge j ((u - l) * es) with hj | hj
        · rw [List.getElem?_take_of_lt hj, List.getElem?_drop, f2 j hj, c2]
        · rw [List.getElem?_eq_none (by rw [List.length_take]; omega), List.getElem?_eq_none (by rw [f1]; exact hj)]
      rwa [he] at hv
    refine Does.same H (by simp only [Sem.run_bind, hrun, Result.andThen_ok]; rfl) ?_
    have h5 : l * es + (u - l) * es ≤ n * es := by rw [← Nat.add_mul]; exact Nat.mul_le_mul_right _ (by omega)
    have hvl : vs.length = n * es := by rw [hrow.1, hlen]
    have hgetv : ∀ j, j < (u - l) * es → ∃ hj : l * es + j < vs.length, ((vs.drop (l * es)).take ((u - l) * es))[j]? = some vs[l * es + j] := fun j hj => ⟨by omega, by
      rw [List.getElem?_take_of_lt hj, List.getElem?_drop, List.getElem?_eq_getElem (by omega)]⟩
    have key := VR.lst (E := E) (u == m) (((chunk es ag n c).take u).drop l) es (if m = l then ⟨b, p, none⟩ else (⟨b, p, none⟩ : Addr).add (l * es)) b (p + l * es) (m - l) (fun j => vs.getD (l * es + j) undef) (by rw [hlen2]; omega)
      (fun hx => by simp only [beq_iff_eq] at hx; rw [hlen2, hx])
      (fun y hy => c3 y (List.mem_of_mem_take (List.mem_of_mem_drop hy)))
      (fun hne' => by
        have hUl : l < u := by
          rcases Nat.lt_or_ge l u with h | h
          · exact h
          · exact absurd (List.eq_nil_of_length_eq_zero (by rw [hlen2]; omega)) hne'
        rw [if_neg (by omega), Addr.add_none])
      (fun j hj => by
        rw [f1] at hj
        rw [Nat.add_assoc]
        exact hfz _ _ (by rw [List.getElem?_eq_getElem (by omega)]; simp [List.getD, List.getElem?_eq_getElem (show l * es + j < vs.length by omega)]))
      (fun j hj => by
        have hj' := hj; rw [f1] at hj'
        obtain ⟨hjv, he⟩ := hgetv j hj'
        have := (hsubv.2 j _ he).2 _ (List.getElem?_eq_getElem hj)
        simpa [List.getD, List.getElem?_eq_getElem hjv] using this)
      (fun j hj => by
        have hj' := hj; rw [f1] at hj'
        obtain ⟨hjv, he⟩ := hgetv j hj'
        have := (hsubv.2 j _ he).1
        simpa [List.getD, List.getElem?_eq_getElem hjv] using this)
    rw [hlen2] at key
    exact key
end
end Go.Vs
namespace Go.Vs
open Go.RowKit

section
variable {w0 w w' : World} {E : Env} {h : Hp} {x : X}

def setObjW (w : World) (r : Nat) (o : Obj) : World := { w with heap := w.heap.setIfInBounds r o }

theorem heap_setObj (w : World) (r k : Nat) (o : Obj) (hk : k ≠ r) : (setObjW w r o).heap[k]? = w.heap[k]? := by
  simp only [setObjW]
  rw [Array.getElem?_setIfInBounds_ne (Ne.symm hk)]

theorem Births.modify {n : Nat} {ms : Array MapEntry} {clock : Nat} (h : Births n ms clock) (j : Nat) (f : MapEntry → MapEntry) (hf : ∀ e, (f e).born = e.born) : Births n (ms.modify j f) clock := by
  refine ⟨by simpa using h.1, h.2.1, fun i m hm => ?_⟩
  rw [Array.getElem?_modify] at hm
  split at hm
  · obtain ⟨m0, h0, rfl⟩ := Option.map_eq_some_iff.1 hm
    rw [hf]; exact h.2.2 i m0 h0
  · exact h.2.2 i m hm

theorem Births.push {n : Nat} {ms : Array MapEntry} {clock : Nat} (h : Births n ms clock) {e : MapEntry} (he : e.born = clock) : Births (n + 1) (ms.push e) (clock + 1) := by
  refine ⟨by simp [h.1], by rw [h.2.1], fun i m hm => ?_⟩
  rw [Array.getElem?_push] at hm
  split at hm
  · cases hm
    rw [he, h.2.1, ← h.1]
    symm; assumption
  · exact h.2.2 i m hm

theorem SR.setMap (H : SR w0 E h w) {β : Nat} {es es' : List (V × V)} (hg : hget h β = some (.map es)) {l : Loc} (hm : E.mu β = some l) (ms : Array MapEntry) (clock : Nat) (hs : Births es'.length ms clock)
    (hp : ∀ (j : Nat) e m, es'[j]? = some e → ms[j]? = some m → VR E e.1 m.key ∧ VR E e.2 m.val) : SR w0 E (h.set β (some (.map es'))) (setObjW w l.b (.map ms clock)) := by
  obtain ⟨l2, hm2, hb⟩ := H.blk β _ (hget_spec hg)
  rw [hm] at hm2; cases hm2
  obtain ⟨hB, h0, hown, ms0, c0, hheap, _, _⟩ := hb
  have hlt : l.b < w.heap.size := by
    rcases Nat.lt_or_ge l.b w.heap.size with h' | h'
    · exact h'
    · rw [Array.getElem?_eq_none h'] at hheap; cases hheap
  have hβ : β < h.length := by have := H.mu_lt hm; rw [H.len]; exact this
  have hnew : (setObjW w l.b (.map ms clock)).heap[l.b]? = some (.map ms clock) := by
    simp only [setObjW]
    rw [Array.getElem?_setIfInBounds_self_of_lt hlt]
  have hbel : Below w0.heap.size w (setObjW w l.b (.map ms clock)) := ⟨rfl, rfl, rfl, by simp [setObjW], fun k hk => heap_setObj w _ _ _ (by omega)⟩
  have hcell : ∀ b o v, w.cell? ⟨b, o, none⟩ = some v → b ≠ l.b := fun b o v hc e => by
    subst e
    unfold World.cell? at hc
    simp only [hheap] at hc
    cases hc
  refine ⟨by simp [H.len], H.below.trans hbel, fun b o v hf => ?_, fun γ y hy => ?_, fun γ l' hm' => ?_, H.dis, H.dfr, fun b o ho => ⟨Nat.lt_of_lt_of_le (H.old b o ho).1 hbel.size, (H.old b o ho).2⟩, fun b o ho => ⟨by rw [heap_setObj w _ _ _ (fun e => (H.hid b o ho).2.2 β l hm e.symm)]; exact (H.hid b o ho).1, (H.hid b o ho).2⟩⟩
  · have hc := H.frz b o v hf
    have hne := hcell b o v hc
    rw [World.cell?_of_block (w := w) (heap_setObj w l.b b _ hne)]; exact hc
  · by_cases hγ : β = γ
    · subst hγ
      rw [List.getElem?_set_self hβ] at hy
      cases hy
      exact ⟨l, hm, hB, h0, hown, ms, clock, hnew, hs, hp⟩
    · rw [List.getElem?_set_ne hγ] at hy
      obtain ⟨l', hm', hb'⟩ := H.blk γ y hy
      refine ⟨l', hm', ?_⟩
      cases y with
      | cells cs ty =>
        obtain ⟨gT, g1, g2, g3, g4⟩ := hb'
        have hsame : ∀ b o, l'.own b o → (setObjW w l.b (.map ms clock)).heap[b]? = w.heap[b]? := fun b o ho => by
          refine heap_setObj w l.b b _ (fun e => ?_)
          obtain ⟨v, hv⟩ := Option.isSome_iff_exists.1 (g3 b o ho).2.1
          exact hcell b o v hv e
        refine ⟨gT.mono fun s hs => ?_, g1, by simp only [setObjW, Array.size_setIfInBounds]; exact g2, fun b o ho => ?_, fun j hj => ?_⟩
        · have hne : l'.b ≠ l.b := fun e => by
            rw [e] at hs
            unfold World.shape? at hs
            rw [hheap] at hs
            cases hs
          unfold World.shape? at hs ⊢
          rw [heap_setObj w _ _ _ hne]; exact hs
        · obtain ⟨e, h1, h2⟩ := g3 b o ho
          exact ⟨e, by rw [World.cell?_of_block (w := w) (hsame b o ho)]; exact h1, by rw [World.frozen?_of_block (w := w) (hsame b o ho)]; exact h2⟩
        · obtain ⟨h1, v, h2, h3, h4⟩ := g4 j hj
          exact ⟨h1, v, by rw [World.cell?_of_block (w := w) (hsame _ _ h1)]; exact h2, h3, h4⟩
      | map es2 =>
        obtain ⟨g1, g0, g2, ms2, c2, g3, g4⟩ := hb'
        have hne : l'.b ≠ l.b := fun e => hγ (H.dis β γ l l' l.b 0 hm hm' h0 (by rw [← e]; exact g0))
        exact ⟨g1, g0, g2, ms2, c2, by rw [heap_setObj w _ _ _ hne]; exact g3, g4⟩
  · by_cases hγ : β = γ
    · subst hγ; exact ⟨_, List.getElem?_set_self hβ⟩
    · rw [List.getElem?_set_ne hγ]; exact H.non γ l' hm'

/-- Keys of one kind, of one cell. -/
def keyQ (td : TypeDesc) (q : Q) : Bool := match td, q with
  | .int _, .num => true
  | .string, .str => true
  | .bool, .bool => true
  | _, _ => false

theorem sameNow_spec {td : TypeDesc} {q : Q} (hq : keyQ td q = true) {a b : V} {r : Bool} (hv : veq q a b = some r) {ua ub : Value} (ha : VR E a ua) (hb : VR E b ub) :
    Instr.sameNow td ua ub = some r ∧ (r = true → Instr.sameBits 10000 ub ua = true) := by
  unfold keyQ at hq
  split at hq
  · cases a <;> (try (simp [veq] at hv; done))
    cases b <;> (try (simp [veq] at hv; done))
    cases ha; cases hb
    rename_i j n k m
    simp only [veq] at hv
    split at hv
    · rename_i hk
      subst hk
      cases hv
      refine ⟨by simp [Instr.sameNow], fun h => ?_⟩
      simp at h
      simp [Instr.sameBits, h]
    · cases hv
  · cases a <;> (try (simp [veq] at hv; done))
    cases b <;> (try (simp [veq] at hv; done))
    cases ha; cases hb
    rename_i s t
    simp only [veq, Option.some.injEq] at hv
    subst hv
    refine ⟨by simp [Instr.sameNow, beq_toListBytes], fun h => ?_⟩
    simp at h
    subst h
    simp [Instr.sameBits, beq_toListBytes]
  · cases a <;> (try (simp [veq] at hv; done))
    cases b <;> (try (simp [veq] at hv; done))
    cases ha; cases hb
    simp only [veq, Option.some.injEq] at hv
    subst hv
    refine ⟨by simp [Instr.sameNow], fun h => ?_⟩
    simp at h
    subst h
    simp [Instr.sameBits]
  · cases hq

theorem findNow_spec {td : TypeDesc} {q : Q} (hq : keyQ td q = true) {k : V} {uk : Value} (hk : VR E k uk) : ∀ (es : List (V × V)) (ms : List MapEntry) (i : Nat) (r : Option V), ms.length = es.length →
    (∀ (j : Nat) e m, es[j]? = some e → ms[j]? = some m → VR E e.1 m.key ∧ VR E e.2 m.val) → findM q k es = some r →
    (∃ j e m, es[j]? = some e ∧ ms[j]? = some m ∧ Instr.findNow td uk ms i = some (some (i + j, m.val)) ∧ r = some e.2 ∧ (∀ v, putM q k v es = some (es.set j (k, v))) ∧ Instr.sameBits 10000 m.key uk = true ∧ idxM q k es = j) ∨
    (Instr.findNow td uk ms i = some none ∧ r = none ∧ (∀ v, putM q k v es = some (es ++ [(k, v)])) ∧ idxM q k es = es.length)
  | [], [], i, r, _, _, hf => by
    simp only [findM, Option.some.injEq] at hf
    exact .inr ⟨rfl, hf.symm, fun v => rfl, rfl⟩
  | e :: es, m :: ms, i, r, hl, hp, hf => by
    simp only [findM] at hf
    have h0 := hp 0 e m rfl rfl
    split at hf
    · rename_i hv
      cases hf
      obtain ⟨h1, h2⟩ := sameNow_spec hq hv hk h0.1
      exact .inl ⟨0, e, m, rfl, rfl, by simp [Instr.findNow, h1], rfl, fun v => by simp [putM, hv], h2 rfl, by simp [idxM, hv]⟩
    · rename_i hv
      obtain ⟨h1, _⟩ := sameNow_spec hq hv hk h0.1
      rcases findNow_spec hq hk es ms (i + 1) r (by simpa using hl) (fun j e m he hm => hp (j + 1) e m (by simpa using he) (by simpa using hm)) hf with ⟨j, e', m', g1, g2, g3, g4, g5, g6, g7⟩ | ⟨g1, g2, g3, g4⟩
      · exact .inl ⟨j + 1, e', m', by simpa using g1, by simpa using g2, by simp [Instr.findNow, h1, g3]; omega, g4, fun v => by simp [putM, hv, g5], g6, by simp [idxM, hv, g7]⟩
      · exact .inr ⟨by simp [Instr.findNow, h1, g1], g2, fun v => by simp [putM, hv, g3], by simp [idxM, hv, g4]⟩
    · cases hf
  | [], _ :: _, _, _, hl, _, _ => by simp at hl
  | _ :: _, [], _, _, hl, _, _ => by simp at hl

theorem run_checkKey {P : Program} {t : TypeId} {td : TypeDesc} {q : Q} (hu : P.underlying t = some td) (hq : keyQ td q = true) (b : Bool) (v : Value) : (Instr.checkKey b 10000 t v).run P w = .ok () w := by
  unfold Instr.checkKey
  simp only [Sem.run_bind, run_underlying hu, Result.andThen_ok]
  cases td <;> simp [keyQ] at hq <;> simp

theorem run_findKey {P : Program} {t : TypeId} {td : TypeDesc} {uk : Value} {ms : List MapEntry} {r : Option (Nat × Value)} (hu : P.underlying t = some td) (hf : Instr.findNow td uk ms 0 = some r) : (Instr.findKey t uk ms).run P w = .ok r w := by
  simp only [Instr.findKey, Sem.run_bind, run_underlying hu, Result.andThen_ok, hf]
  rfl

theorem does_look {t kt et : TypeId} {td : TypeDesc} {q : Q} {z : Value} {zv : V} {k : V} {uk mu : Value} {β : Nat} {es : List (V × V)} {r : Option V} {ok : Bool} (H : SR w0 E h w) (hu : x.P.underlying t = some (.map kt et)) (hk : x.P.underlying kt = some td) (hq : keyQ td q = true)
    (hz : tZero x.P et = some z) (hzc : ckV z zv = true) (hm : VR E (.map β) mu) (hg : hget h β = some (.map es)) (hvk : VR E k uk) (hf : findM q k es = some r) :
    Does x w0 E w ((do pure (.value (← Instr.lookup t mu uk ok)) : Sem Next).run x.P w) (some (.val (if ok then .tup [r.getD zv, .bool r.isSome] else r.getD zv) h)) := by
  obtain ⟨l, hml, hb⟩ := H.blk β _ (hget_spec hg)
  obtain ⟨hB, h0, hown, ms, clock, hheap, hbirth, hpair⟩ := hb
  have hsz := hbirth.1
  cases hm with
  | map _ r0 hn hh =>
    have hr0 := hh l hml
    subst hr0
    have hget : (getObj l.b).run x.P w = .ok (.map ms clock) w := by simp [getObj, Sem.run, hheap]
    have hzv : VR E zv z := ckV_spec hzc
    have hfs := findNow_spec hq hvk es ms.toList 0 r (by simpa using hsz) (fun j e m he hm => hpair j e m he (by simpa using hm)) hf
    have key : ∃ u ok', (Instr.lookup t (.map (some l.b)) uk ok).run x.P w = .ok (if ok then .tuple #[u, .bool ok'] else u) w ∧ VR E (r.getD zv) u ∧ ok' = r.isSome := by
      rcases hfs with ⟨j, e, m, g1, g2, g3, rfl, g5, g6, _⟩ | ⟨g1, rfl, g3, _⟩
      · refine ⟨m.val, true, ?_, (hpair j e m g1 (by simpa using g2)).2, rfl⟩
        simp only [Instr.lookup, Sem.run_bind, run_underlying hu, Result.andThen_ok, hget, Sem.run_pure, run_checkKey hk hq, run_findKey hk g3]
      · refine ⟨z, false, ?_, hzv, rfl⟩
        simp only [Instr.lookup, Sem.run_bind, run_underlying hu, Result.andThen_ok, hget, Sem.run_pure, run_checkKey hk hq, run_findKey hk g1, run_zero hz]
    obtain ⟨u, ok', hr, hvr, rfl⟩ := key
    refine Does.same H (by simp only [Sem.run_bind, hr, Result.andThen_ok]; rfl) ?_
    cases ok with
    | false => exact hvr
    | true =>
      refine .tup _ _ rfl (fun j y v hy hv => ?_)
      match j, hy, hv with
      | 0, hy, hv => simp at hy hv; subst hy; subst hv; exact hvr
      | 1, hy, hv => simp at hy hv; subst hy; subst hv; exact .bool _
      | j + 2, hy, hv => simp at hy

theorem does_look_nil {t kt et : TypeId} {td : TypeDesc} {q : Q} {z : Value} {zv : V} {uk : Value} {ok : Bool} (H : SR w0 E h w) (hu : x.P.underlying t = some (.map kt et)) (hk : x.P.underlying kt = some td) (hq : keyQ td q = true)
    (hz : tZero x.P et = some z) (hzc : ckV z zv = true) :
    Does x w0 E w ((do pure (.value (← Instr.lookup t (.map none) uk ok)) : Sem Next).run x.P w) (some (.val (if ok then .tup [zv, .bool false] else zv) h)) := by
  have hr : (Instr.lookup t (.map none) uk ok).run x.P w = .ok (if ok then .tuple #[z, .bool false] else z) w := by
    have hf : Instr.findNow td uk [] 0 = some none := rfl
    simp only [Instr.lookup, Sem.run_bind, run_underlying hu, Result.andThen_ok, Sem.run_pure, run_checkKey hk hq, run_findKey hk hf, run_zero hz]
  refine Does.same H (by simp only [Sem.run_bind, hr, Result.andThen_ok]; rfl) ?_
  cases ok with
  | false => exact ckV_spec hzc
  | true =>
    refine .tup _ _ rfl (fun j y v hy hv => ?_)
    match j, hy, hv with
    | 0, hy, hv => simp at hy hv; subst hy; subst hv; exact ckV_spec hzc
    | 1, hy, hv => simp at hy hv; subst hy; subst hv; exact .bool _
    | j + 2, hy, hv => simp at hy

theorem putM_findM {q : Q} {k v : V} : ∀ {es es' : List (V × V)}, putM q k v es = some es' → ∃ r, findM q k es = some r
  | [], _, _ => ⟨none, rfl⟩
  | e :: es, es', hp => by
    simp only [putM] at hp
    split at hp
    · rename_i hv; exact ⟨some e.2, by simp [findM, hv]⟩
    · rename_i hv
      simp only [Option.map_eq_some_iff] at hp
      obtain ⟨es2, h1, _⟩ := hp
      obtain ⟨r, hr⟩ := putM_findM h1
      exact ⟨r, by simp [findM, hv, hr]⟩
    · cases hp

theorem run_keyThatStays {P : Program} {a b : Value} (hs : Instr.sameBits 10000 a b = true) : (Instr.keyThatStays a b).run P w = .ok b w := by
  simp [Instr.keyThatStays, hs]

theorem does_upd {t kt et : TypeId} {td : TypeDesc} {q : Q} {k v : V} {uk uv mu : Value} {β : Nat} {es es' : List (V × V)} (H : SR w0 E h w) (hu : x.P.underlying t = some (.map kt et)) (hk : x.P.underlying kt = some td) (hq : keyQ td q = true)
    (hm : VR E (.map β) mu) (hg : hget h β = some (.map es)) (hvk : VR E k uk) (hvv : VR E v uv) (hp : putM q k v es = some es') :
    Does x w0 E w ((do Instr.mapUpdate t mu uk uv; pure Next.skip : Sem Next).run x.P w) (some (.skip (h.set β (some (.map es'))))) := by
  obtain ⟨l, hml, hb⟩ := H.blk β _ (hget_spec hg)
  obtain ⟨hB, h0, hown, ms, clock, hheap, hbirth, hpair⟩ := hb
  have hsz := hbirth.1
  cases hm with
  | map _ r0 hn hh =>
    have hr0 := hh l hml
    subst hr0
    have hget : (getObj l.b).run x.P w = .ok (.map ms clock) w := by simp [getObj, Sem.run, hheap]
    have hset : ∀ o, (setObj l.b o).run x.P w = .ok () (setObjW w l.b o) := fun o => by simp [setObj, Sem.run, hheap, setObjW]
    obtain ⟨r, hf⟩ := putM_findM hp
    have hfs := findNow_spec hq hvk es ms.toList 0 r (by simpa using hsz) (fun j e m he hm => hpair j e m he (by simpa using hm)) hf
    rcases hfs with ⟨j, e, m, g1, g2, g3, rfl, g5, g6, _⟩ | ⟨g1, rfl, g3, _⟩
    · have h5 := g5 v
      rw [hp] at h5
      cases h5
      have g2' : ms[j]? = some m := by simpa using g2
      refine ⟨E, setObjW w l.b (.map (ms.modify j fun e => { e with key := uk, val := uv }) clock), Le.refl E, ?_, H.setMap hg hml _ _ (by rw [List.length_set]; exact hbirth.modify j (fun e => { e with key := uk, val := uv }) (fun _ => rfl)) (fun i e' m' he' hm' => ?_)⟩
      · simp only [Nat.zero_add] at g3
        simp only [Instr.mapUpdate, Sem.run_bind, run_underlying hu, Result.andThen_ok, hget, run_checkKey hk hq, run_findKey hk g3, g2', Option.map_some, Option.getD_some, run_keyThatStays g6, hset]
        rfl
      · rw [Array.getElem?_modify] at hm'
        by_cases hij : j = i
        · subst hij
          rw [List.getElem?_set_self (List.getElem?_eq_some_iff.1 g1).1] at he'
          rw [if_pos rfl, g2'] at hm'
          cases he'; cases hm'
          exact ⟨hvk, hvv⟩
        · rw [List.getElem?_set_ne hij] at he'
          rw [if_neg hij] at hm'
          exact hpair i e' m' he' hm'
    · have h3 := g3 v
      rw [hp] at h3
      cases h3
      refine ⟨E, setObjW w l.b (.map (ms.push { key := uk, val := uv, born := clock }) (clock + 1)), Le.refl E, ?_, H.setMap hg hml _ _ (by rw [List.length_append]; exact hbirth.push rfl) (fun i e' m' he' hm' => ?_)⟩
      · simp only [Instr.mapUpdate, Sem.run_bind, run_underlying hu, Result.andThen_ok, hget, run_checkKey hk hq, run_findKey hk g1, hset]
        rfl
      · rw [Array.getElem?_push] at hm'
        by_cases hi : i = ms.size
        · subst hi
          rw [if_pos rfl] at hm'
          rw [hsz, List.getElem?_append_right (Nat.le_refl _)] at he'
          simp at he'
          cases he'; cases hm'
          exact ⟨hvk, hvv⟩
        · rw [if_neg hi] at hm'
          have hlt : i < es.length := by
            rw [← hsz]
            rcases Nat.lt_or_ge i ms.size with h' | h'
            · exact h'
            · rw [Array.getElem?_eq_none h'] at hm'; cases hm'
          rw [List.getElem?_append_left hlt] at he'
          exact hpair i e' m' he' hm'

/-- A map's entry, for an assignment behind it. -/
theorem does_ment {t kt et : TypeId} {td : TypeDesc} {q : Q} {k z : V} {zv uk mu : Value} {β : Nat} {es es' : List (V × V)} {r : Option V} (H : SR w0 E h w) (hu : x.P.underlying t = some (.map kt et)) (hk : x.P.underlying kt = some td) (hq : keyQ td q = true)
    (hz : tZero x.P et = some zv) (hzc : ckV zv z = true) (hm : VR E (.map β) mu) (hg : hget h β = some (.map es)) (hvk : VR E k uk) (hf : findM q k es = some r) (hp : putM q k (r.getD z) es = some es') :
    Does x w0 E w ((do pure (.value (← Instr.mapEntry t mu uk)) : Sem Next).run x.P w) (some (.val (.tup [r.getD z, .int .i64 (idxM q k es)]) (h.set β (some (.map es'))))) := by
  obtain ⟨l, hml, hb⟩ := H.blk β _ (hget_spec hg)
  obtain ⟨hB, h0, hown, ms, clock, hheap, hbirth, hpair⟩ := hb
  have hsz := hbirth.1
  cases hm with
  | map _ r0 hn hh =>
    have hr0 := hh l hml
    subst hr0
    have hget : (getObj l.b).run x.P w = .ok (.map ms clock) w := by simp [getObj, Sem.run, hheap]
    have hset : ∀ o, (setObj l.b o).run x.P w = .ok () (setObjW w l.b o) := fun o => by simp [setObj, Sem.run, hheap, setObjW]
    have hfs := findNow_spec hq hvk es ms.toList 0 r (by simpa using hsz) (fun j e m he hm => hpair j e m he (by simpa using hm)) hf
    have tup2 : ∀ {a : V} {u : Value} {n : Nat}, VR E a u → VR E (.tup [a, .int .i64 n]) (.tuple #[u, goInt n]) := fun {a u n} ha => by
      refine .tup _ _ rfl fun j y v hy hv => ?_
      match j, hy, hv with
      | 0, hy, hv => simp at hy hv; subst hy; subst hv; exact ha
      | 1, hy, hv => simp at hy hv; subst hy; subst hv; exact .int _ _
      | j + 2, hy, hv => simp at hy
    rcases hfs with ⟨j, e, m, g1, g2, g3, rfl, g5, g6, g7⟩ | ⟨g1, rfl, g3, g7⟩
    · simp only [Option.getD_some] at hp ⊢
      rw [g5] at hp
      cases hp
      have g2' : ms[j]? = some m := by simpa using g2
      have hborn : m.born = j := hbirth.2.2 j m g2'
      refine ⟨.tuple #[m.val, goInt j], E, setObjW w l.b (.map (ms.modify j fun e => { e with key := uk }) clock), Le.refl E, ?_, by rw [g7]; exact tup2 (hpair j e m g1 g2').2, H.setMap hg hml _ _ (by rw [List.length_set]; exact hbirth.modify j (fun e => { e with key := uk }) (fun _ => rfl)) (fun i e' m' he' hm' => ?_)⟩
      · simp only [Nat.zero_add] at g3
        simp only [Instr.mapEntry, Sem.run_bind, run_underlying hu, Result.andThen_ok, hget, run_checkKey hk hq, run_findKey hk g3, g2', Option.map_some, Option.getD_some, run_keyThatStays g6, hset, hborn, Sem.run_pure]
      · rw [Array.getElem?_modify] at hm'
        by_cases hij : j = i
        · subst hij
          rw [List.getElem?_set_self (List.getElem?_eq_some_iff.1 g1).1] at he'
          rw [if_pos rfl, g2'] at hm'
          cases he'; cases hm'
          exact ⟨hvk, (hpair j e m g1 g2').2⟩
        · rw [List.getElem?_set_ne hij] at he'
          rw [if_neg hij] at hm'
          exact hpair i e' m' he' hm'
    · simp only [Option.getD_none] at hp ⊢
      rw [g3] at hp
      cases hp
      have hzv : VR E z zv := ckV_spec hzc
      refine ⟨.tuple #[zv, goInt clock], E, setObjW w l.b (.map (ms.push { key := uk, val := zv, born := clock }) (clock + 1)), Le.refl E, ?_, by rw [g7, ← hbirth.2.1]; exact tup2 hzv, H.setMap hg hml _ _ (by rw [List.length_append]; exact hbirth.push rfl) (fun i e' m' he' hm' => ?_)⟩
      · simp only [Instr.mapEntry, Sem.run_bind, run_underlying hu, Result.andThen_ok, hget, run_checkKey hk hq, run_findKey hk g1, run_zero hz, hset, Sem.run_pure]
      · rw [Array.getElem?_push] at hm'
        by_cases hi : i = ms.size
        · subst hi
          rw [if_pos rfl] at hm'
          rw [hsz, List.getElem?_append_right (Nat.le_refl _)] at he'
          simp at he'
          cases he'; cases hm'
          exact ⟨hvk, hzv⟩
        · rw [if_neg hi] at hm'
          have hlt : i < es.length := by
            rw [← hsz]
            rcases Nat.lt_or_ge i ms.size with h' | h'
            · exact h'
            · rw [Array.getElem?_eq_none h'] at hm'; cases hm'
          rw [List.getElem?_append_left hlt] at he'
          exact hpair i e' m' he' hm'

/-- .. and the assignment. -/
theorem does_ests {t : TypeId} {v : V} {uv mu su : Value} {β : Nat} {es : List (V × V)} {k0 : IntKind} {n : Int} {e : V × V} (H : SR w0 E h w)
    (hm : VR E (.map β) mu) (hs : VR E (.int k0 n) su) (hg : hget h β = some (.map es)) (hvv : VR E v uv) (he : es[n.toNat]? = some e) (hn0 : 0 ≤ n) :
    Does x w0 E w ((do Instr.entryStore t mu su uv; pure Next.skip : Sem Next).run x.P w) (some (.skip (h.set β (some (.map (es.set n.toNat (e.1, v))))))) := by
  obtain ⟨l, hml, hb⟩ := H.blk β _ (hget_spec hg)
  obtain ⟨hB, h0, hown, ms, clock, hheap, hbirth, hpair⟩ := hb
  have hsz := hbirth.1
  cases hs
  cases hm with
  | map _ r0 hn hh =>
    have hr0 := hh l hml
    subst hr0
    have hget : (getObj l.b).run x.P w = .ok (.map ms clock) w := by simp [getObj, Sem.run, hheap]
    have hset : ∀ o, (setObj l.b o).run x.P w = .ok () (setObjW w l.b o) := fun o => by simp [setObj, Sem.run, hheap, setObjW]
    have hlt : n.toNat < ms.size := by rw [hsz]; exact (List.getElem?_eq_some_iff.1 he).1
    have hfind : ms.findIdx? (fun e => (e.born : Int) == n) = some n.toNat := by
      rw [Array.findIdx?_eq_some_iff_getElem]
      refine ⟨hlt, ?_, fun j hj => ?_⟩
      · have := hbirth.2.2 n.toNat ms[n.toNat] (by simp [hlt])
        rw [this]
        simp only [beq_iff_eq]
        omega
      · have := hbirth.2.2 j ms[j] (by simp [Nat.lt_trans hj hlt])
        rw [this]
        simp only [beq_iff_eq]
        omega
    refine ⟨E, setObjW w l.b (.map (ms.modify n.toNat fun e => { e with val := uv }) clock), Le.refl E, ?_, H.setMap hg hml _ _ (by rw [List.length_set]; exact hbirth.modify n.toNat (fun e => { e with val := uv }) (fun _ => rfl)) (fun i e' m' he' hm' => ?_)⟩
    · have hint : (asIntOf (Value.int k0 n)).run x.P w = .ok (k0, n) w := by simp [asIntOf]
      simp only [Instr.entryStore, Sem.run_bind, Result.andThen_ok, hget, asInt, Sem.run_pure, hint, hfind, hset]
    · rw [Array.getElem?_modify] at hm'
      by_cases hij : n.toNat = i
      · subst hij
        rw [List.getElem?_set_self (List.getElem?_eq_some_iff.1 he).1] at he'
        rw [if_pos rfl] at hm'
        obtain ⟨m0, hm0, rfl⟩ := Option.map_eq_some_iff.1 hm'
        cases he'
        exact ⟨(hpair _ e m0 he hm0).1, hvv⟩
      · rw [List.getElem?_set_ne hij] at he'
        rw [if_neg hij] at hm'
        exact hpair i e' m' he' hm'

theorem does_mkm {t : TypeId} (H : SR w0 E h w) :
    Does x w0 E w ((do pure (.value (← Instr.makeMap t none)) : Sem Next).run x.P w) (some (.val (.map h.length) (h ++ [some (.map [])]))) := by
  let l : Loc := ⟨w.heap.size, 0, fun b o => b = w.heap.size ∧ o = 0⟩
  refine ⟨.map (some w.heap.size), E.add l, w.alloc (.map #[] 0), Le.add _ _, by simp [Instr.makeMap], ?_, ?_⟩
  · exact .map _ _ (by rw [H.len]; simp [Env.add]) fun l' hl' => by
      simp only [Env.add, H.len, if_pos] at hl'
      cases hl'; rfl
  · refine H.new l (.map []) ((Below.refl _ _).alloc (Nat.le_refl _) _) rfl ⟨H.below.size, ⟨rfl, rfl⟩, fun b o ho => ho.1, #[], 0, ?_, ⟨rfl, rfl, fun j m hm => by simp at hm⟩, fun j e m he => by simp at he⟩
    simp [l, World.alloc, -World.alloc_eq]
end
end Go.Vs
namespace Go.Vs
open Go.RowKit

def ckParts (l : List (Nat × Nat)) : List (Nat × Operand) → List (Nat × Nat × O) → Bool
  | [], [] => true
  | (i, p) :: r, (o, n, a) :: s => l[i]? == some (o, n) && ckO p a && ckParts l r s
  | _, _ => false

def ckPartsI : List (Nat × Operand) → List (Nat × O) → Bool
  | [], [] => true
  | (i, p) :: r, (j, a) :: s => i == j && ckO p a && ckPartsI r s
  | _, _ => false

def ckPartsA (es : Nat) : List (Nat × Operand) → List (Nat × Nat × O) → Bool
  | [], [] => true
  | (i, p) :: r, (o, n, a) :: s => o == i * es && n == es && ckO p a && ckPartsA es r s
  | _, _ => false

def zeroPat (z : Value) (n : Nat) : List Value := if n = 0 then [] else (List.range n).map fun i => z.cells.toList.getD (i % z.cells.size) default

def ckOo : Option Operand → Option O → Bool
  | none, none => true
  | some p, some a => ckO p a
  | _, _ => false

def isPtr (P : Program) (t : TypeId) : Option Bool := (P.underlying t).map fun | .pointer _ => true | _ => false

/-- A method's row, where the receiver is the value itself or one part of it. -/
def ckM (P : Program) (t : TypeId) (m : String) (f : FuncId) (p : Option Nat) : Bool := match P.info? t with
  | some i => match i.methods.find? (·.name == m), p with
    | some r, none => r.path.isEmpty && (match r.func with
      | some (g, b) => g == f && isPtr P t == some b
      | none => false)
    | some r, some off => (match r.path.toList, r.func with
      | [s], some (g, b) => g == f && b && !s.deref && (match P.underlying s.struct with
        | some (.struct fs) => match fs[s.index]? with
          | some fd => fd.offset == off && tAg P fd.type == some false && isPtr P fd.type == some true
          | none => false
        | _ => false)
      | _, _ => false)
    | none, _ => false
  | none => false

def XOk (x : X) : Prop := ∀ t m f p, x.M t m = some (f, p) → ckM x.P t m f p = true

def ckTy (t : TypeId) : Option TypeId → Bool
  | none => true
  | some T => T == t

theorem ckTy_spec {t : TypeId} {ty : Option TypeId} (h : ckTy t ty = true) : ∀ T, ty = some T → T = t := by
  intro T hT
  subst hT
  simpa [ckTy] using h

def ckAppT (P : Program) (t1 t2 : TypeId) (es bt : Nat) (ty : Option TypeId) : Bool := match P.underlying t1 with
  | some (.slice e) => ckTy e ty && (match P.underlying t2 with
      | some .string => true
      | some (.slice _) => true
      | _ => false) && (match P.info? e with
      | some i => i.size == es && i.bytes == bt && (match i.zero with | some z => z.cells.size == es | none => false)
      | none => false) && decide (1 ≤ bt) && decide (bt ≤ 65536)
  | _ => false

def ckJ (P : Program) (op : Op) (j : J) : Bool := match op, j with
  | .slice t p none (some hi) none, .slw es a b => (match P.underlying t with
    | some (.slice e) => tSize P e == some es
    | _ => false) && ckO p a && ckO hi b
  | .makeSlice t p q, .mkz es bt ag z a b => (match P.underlying t with
    | some (.slice e) => (match P.info? e with
      | some i => i.size == es && i.bytes == bt && tAg P e == some ag && (match i.zero with | some zv => zv.cells.size == es && ckVs zv.cells.toList z | none => false)
      | none => false)
    | _ => false) && (ag || es == 1) && ckO p a && ckO q b
  | .convert s d p, .cvb ty a => s == d && (match P.underlying s with
    | some (.slice e) => e == ty && (match P.underlying e with | some (.int .u8) => true | _ => false)
    | _ => false) && ckO p a
  | .buildSlice t n ps, .mkt _ z len qs ty => (match P.underlying t with
    | some (.slice e) => e == ty && tSize P e == some 1 && n == len && decide (n * 1 ≤ 2 ^ 24) && (match tZero P e with
      | some zv => ckVs (zeroPat zv (n * 1)) z
      | none => false) && ckPartsI ps.toList qs && z.length == n * 1
    | _ => false)
  | .call c, j => (match c.callee, j with
    | .builtin .min, .min3 a b d => (match c.args.toList with
      | [p, q, r] => ckO p a && ckO q b && ckO r d
      | _ => false)
    | .builtin .append, .apm es bt ag z a b => (match c.args.toList, c.argTypes.toList with
      | [p, q], [t1, t2] => ckO p a && ckO q b && (match P.underlying t2 with | some (.int _) => true | _ => false) && (match P.underlying t1 with
        | some (.slice e) => (match P.info? e with
          | some i => i.size == es && i.bytes == bt && decide (1 ≤ bt) && decide (bt ≤ 65536) && decide (1 ≤ es) && (match i.zero with | some zv => zv.cells.size == es && ckVs zv.cells.toList z | none => false)
          | none => false)
        | _ => false)
      | _, _ => false)
    | .builtin .cap, .cap a => (match c.args.toList, c.argTypes.toList with
      | [p], [t] => ckO p a && (match P.underlying t with
        | some (.slice _) => true
        | _ => false)
      | _, _ => false)
    | .value (.func f), .mnz kt a => (match P.funcs[f]? with
      | some fn => fn.name == "internal/bytealg.MakeNoZero" && fn.origin == "" && fn.body.isNone && (match fn.resultTypes[0]? with
        | some t => (match P.underlying t with
          | some (.slice e) => e == kt
          | _ => false)
        | none => false)
      | none => false) && (match c.args.toList with
      | [p] => ckO p a
      | _ => false)
    | .value (.func f), .adc a b d => (match P.funcs[f]? with
      | some fn => fn.name == "math/bits.Add64" && fn.origin == "" && fn.body.isNone
      | none => false) && (match c.args.toList with
      | [p, q, r] => ckO p a && ckO q b && ckO r d
      | _ => false)
    | _, _ => false)
  | _, _ => false

def ckI (P : Program) (o : Op) (i : I) : Bool := match o, i with
  | .move p, .mov a => ckO p a
  | .assign p, .mov a => ckO p a
  | .pick c p q, .pick c' a b => ckO c c' && ckO p a && ckO q b
  | .alloc t, .new z ty => ckTy t ty && (match tZero P t with
    | some zv => ckVs zv.cells.toList z
    | none => false)
  | .box e p, .box ty a => ckTy e ty && ckO p a
  | .build t ps, .build z qs => match tZero P t, P.underlying t with
    | some zv, some (.struct fs) => (match places P fs.toList with
      | some l => ckVs zv.cells.toList z && ckParts l ps.toList qs
      | none => false)
    | some zv, some (.array _ e) => (match tSize P e with
      | some es => ckVs zv.cells.toList z && ckPartsA es ps.toList qs
      | none => false)
    | _, _ => false
  | .buildSlice t n ps, .mks _ es _ ag z len qs => match P.underlying t with
    | some (.slice e) => tSize P e == some es && tAg P e == some ag && (ag || es == 1) && n == len && decide (n * es ≤ 2 ^ 24) && (match tZero P e with
      | some zv => ckVs (zeroPat zv (n * es)) z
      | none => false) && ckPartsI ps.toList qs && z.length == n * es
    | _ => false
  | .load t p, .load n ag a => tSize P t == some n && tAg P t == some ag && ckO p a
  | .store t p q, .store n a b => tSize P t == some n && ckO p a && ckO q b
  | .nilCheck p, .nilck a => ckO p a
  | .binOp op t p q _, .bin op' k a b => op == op' && ckBin P op t k a b && ckO p a && ckO q b
  | .binOp op t p q _, .pne a b => op == .neq && (match P.underlying t with
    | some (.pointer e) => (P.info? e).isSome
    | _ => false) && ckO p a && ckO q b
  | .unOp op _ p, .un op' a => op == op' && ckO p a
  | .convert s d p, .cvi k a => (P.underlying s).isSome && (match P.underlying d with | some (.int k') => k == k' | _ => false) && ckO p a
  | .convert s d p, .cvs a => (P.underlying s).isSome && (match P.underlying d with | some .string => true | _ => false) && ckO p a
  | .convert s d p, .s2b _ a => (P.underlying s).isSome && (match P.underlying d with
    | some (.slice e) => (match P.underlying e with | some (.int .u8) => true | _ => false)
    | _ => false) && ckO p a
  | .convert s d p, .b2s a => (match P.underlying s with
    | some (.slice e) => (match P.underlying e with | some (.int .u8) => true | _ => false)
    | _ => false) && (match P.underlying d with | some .string => true | _ => false) && ckO p a
  | .convert s d p, .toU a => (match P.underlying s with
    | some (.pointer t) => (match P.info? t with | some j => j.size != 0 | none => false)
    | _ => false) && (match P.underlying d with | some .unsafePointer => true | _ => false) && ckO p a
  | .convert s d p, .frU kt n a => (match P.underlying s with | some .unsafePointer => true | _ => false) && (match P.underlying d with
    | some (.pointer t) => t == kt && (P.info? t).isSome && P.cellsOf t == n && n != 0
    | _ => false) && ckO p a
  | .sliceToArrayPointer t p, .arrp n es a => (match P.underlying t with
    | some (.array m e) => m == n && tSize P e == some es
    | _ => false) && ckO p a
  | .makeInterface t p, .mki t' a => t == t' && (match P.underlying t with
    | some (.interface _) => false
    | some _ => true
    | none => false) && ckO p a
  | .makeFunc f fi ca, .mkf g fi' ca' => (match f, g with | .func a, .func b => a == b | .method a, .method b => a == b | _, _ => false) && ckOs fi.toList fi' && ckOs ca.toList ca'
  | .makeMap _ none, .mkm => true
  | .makeSlice t p q, .mksl es bt ag z a b => (match P.underlying t with
    | some (.slice e) => (match P.info? e with
      | some i => i.size == es && i.bytes == bt && tAg P e == some ag && (match i.zero with | some zv => zv.cells.size == es && ckVs zv.cells.toList z | none => false)
      | none => false)
    | _ => false) && ckO p a && ckO q b
  | .slice t p lo hi mx, .slc st es a lo' hi' mx' => (match P.underlying t with
    | some .string => st
    | some (.slice e) => !st && tSize P e == some es
    | _ => false) && ckO p a && ckOo lo lo' && ckOo hi hi' && ckOo mx mx' && (mx.isNone || hi.isSome)
  | .slice t p lo hi mx, .slca n es ag a lo' hi' mx' => (match P.underlying t with
    | some (.array m e) => m == n && tSize P e == some es && tAg P e == some ag && (ag || es == 1)
    | _ => false) && ckO p a && ckOo lo lo' && ckOo hi hi' && ckOo mx mx' && (mx.isNone || hi.isSome)
  | .fieldAddr t p f, .fad off a => (match P.underlying t with
    | some (.struct fs) => (match fs[f]? with
      | some fd => fd.offset == off && (match tSize P fd.type with | some n => n != 0 | none => false)
      | none => false)
    | _ => false) && ckO p a
  | .field t p f, .fld off n ag a => (match P.underlying t with
    | some (.struct fs) => (match fs[f]? with
      | some fd => fd.offset == off && tSize P fd.type == some n && tAg P fd.type == some ag
      | none => false)
    | _ => false) && ckO p a
  | .indexAddr t p q, .iad es a b => (match P.underlying t with
    | some (.slice e) => tSize P e == some es
    | _ => false) && ckO p a && ckO q b
  | .indexAddr t p q, .iada n es a b => (match P.underlying t with
    | some (.array m e) => m == n && tSize P e == some es
    | _ => false) && ckO p a && ckO q b
  | .index t p q, .idxs a b => (match P.underlying t with | some .string => true | _ => false) && ckO p a && ckO q b
  | .index t p q, .idxa n es ag a b => (match P.underlying t with
    | some (.array m e) => m == n && tSize P e == some es && tAg P e == some ag
    | _ => false) && ckO p a && ckO q b
  | .lookup t p q ok, .look k z a b ok' => (match P.underlying t with
    | some (.map kt et) => (match P.underlying kt with | some td => keyQ td k | none => false) && (match tZero P et with | some zv => ckV zv z | none => false)
    | _ => false) && ckO p a && ckO q b && ok == ok'
  | .mapUpdate t p q r, .upd k a b c => (match P.underlying t with
    | some (.map kt _) => (match P.underlying kt with | some td => keyQ td k | none => false)
    | _ => false) && ckO p a && ckO q b && ckO r c
  | .insert t p q r, .upd k a b c => (match P.underlying t with
    | some (.map kt _) => (match P.underlying kt with | some td => keyQ td k | none => false)
    | _ => false) && ckO p a && ckO q b && ckO r c
  | .mapEntry t p q, .ment k z a b => (match P.underlying t with
    | some (.map kt et) => (match P.underlying kt with | some td => keyQ td k | none => false) && (match tZero P et with | some zv => ckV zv z | none => false)
    | _ => false) && ckO p a && ckO q b
  | .entryStore _ p q r, .ests a b c => ckO p a && ckO q b && ckO r c
  | .typeAssert p _ t ok, .asrt t' z a ok' => t == t' && ok == ok' && (match P.underlying t with
    | some (.interface _) => false
    | some _ => true
    | none => false) && (match tZero P t with | some zv => ckV zv z | none => false) && ckO p a
  | .extract p n, .ext a m => n == m && ckO p a
  | .call c, i => (match c.callee, i with
    | .builtin .len, .len q a => (match c.args.toList, c.argTypes.toList with
      | [p], [t] => ckO p a && (q == .str || q == .slc || q == .map) && ckQ P t q
      | _, _ => false)
    | .builtin .len, .lenc n => (match c.argTypes.toList, c.args.toList with
      | [t], [_] => (match P.underlying t with
        | some (.array m _) => m == n
        | _ => false)
      | _, _ => false)
    | .builtin .append, .app es bt _ kt a b => (match c.args.toList, c.argTypes.toList with
      | [p, q], [t1, t2] => ckO p a && ckO q b && ckAppT P t1 t2 es bt kt
      | _, _ => false)
    | .builtin .copy, .cpy es a b => (match c.args.toList, c.argTypes.toList with
      | [p, q], [t1, _] => ckO p a && ckO q b && (match P.underlying t1 with
        | some (.slice e) => tSize P e == some es
        | _ => false)
      | _, _ => false)
    | .builtin .clear, .clr z a => (match c.args.toList, c.argTypes.toList with
      | [p], [t] => ckO p a && (match P.underlying t with
        | some (.slice e) => (match tZero P e with | some zv => ckVs zv.cells.toList z | none => false)
        | _ => false)
      | _, _ => false)
    | .builtin .max, .max a b => (match c.args.toList with
      | [p, q] => ckO p a && ckO q b
      | _ => false)
    | .builtin .min, .min a b => (match c.args.toList with
      | [p, q] => ckO p a && ckO q b
      | _ => false)
    | .builtin .unsafeSliceData, .sld a => (match c.args.toList with
      | [p] => ckO p a
      | _ => false)
    | .builtin .unsafeString, .ustr kt a b => (match c.args.toList, c.argTypes.toList with
      | [p, q], [pt, _] => ckO p a && ckO q b && (match P.underlying pt with
        | some (.pointer e) => e == kt && P.cellsOf e == 1
        | _ => false)
      | _, _ => false)
    | .value (.func f), .noEsc a => (match P.funcs[f]? with
      | some fn => fn.name == "internal/abi.NoEscape" && fn.origin == "" && fn.body.isNone
      | none => false) && (match c.args.toList with
      | [p] => ckO p a
      | _ => false)
    | .value p, .call a as => ckO p a && ckOs c.args.toList as
    | .invoke r m, .inv a m' as => m == m' && ckO r a && ckOs c.args.toList as
    | _, .j k => ckJ P (.call c) k
    | _, _ => false)
  | .defer c, .dfr a as => (match c.callee with
    | .value p => ckO p a && ckOs c.args.toList as
    | _ => false)
  | .panic p, .pan a => ckO p a
  | op, .j k => ckJ P op k
  | _, _ => false

section
variable {w0 w : World} {E : Env} {h : Hp} {x : X}

theorem ckParts_spec {l : List (Nat × Nat)} {t : Nat → V} {a : Act} (hg : GR x E) (ht : ∀ n, VR E (t n) (a.tmps.getD n undef)) : ∀ {ps : List (Nat × Operand)} {qs : List (Nat × Nat × O)}, ckParts l ps qs = true →
    (ps.map fun (i, p) => (i, a.eval p)).length = (qs.map fun (o, n, b) => (o, n, b.ev x t)).length ∧ ∀ (j : Nat) p q, (ps.map fun (i, p) => (i, a.eval p))[j]? = some p → (qs.map fun (o, n, b) => (o, n, b.ev x t))[j]? = some q → l[p.1]? = some (q.1, q.2.1) ∧ VR E q.2.2 p.2
  | [], [], _ => ⟨rfl, fun j p q hp => by simp at hp⟩
  | (i, p) :: r, (o, n, b) :: s, h => by
    simp only [ckParts, Bool.and_eq_true, beq_iff_eq] at h
    obtain ⟨h1, h2⟩ := ckParts_spec hg ht h.2
    refine ⟨by simpa using h1, fun j p' q' hp hq => ?_⟩
    cases j with
    | zero => simp at hp hq; subst hp; subst hq; exact ⟨h.1.1, ckO_spec hg ht h.1.2⟩
    | succ j => exact h2 j p' q' (by simpa using hp) (by simpa using hq)
  | [], _ :: _, h => by simp [ckParts] at h
  | _ :: _, [], h => by simp [ckParts] at h

theorem ckPartsA_spec {es : Nat} {t : Nat → V} {a : Act} (hg : GR x E) (ht : ∀ n, VR E (t n) (a.tmps.getD n undef)) : ∀ {ps : List (Nat × Operand)} {qs : List (Nat × Nat × O)}, ckPartsA es ps qs = true →
    (ps.map fun (i, p) => (i, a.eval p)).length = (qs.map fun (o, n, b) => (o, n, b.ev x t)).length ∧ ∀ (j : Nat) p q, (ps.map fun (i, p) => (i, a.eval p))[j]? = some p → (qs.map fun (o, n, b) => (o, n, b.ev x t))[j]? = some q → (q.1 = p.1 * es ∧ q.2.1 = es) ∧ VR E q.2.2 p.2
  | [], [], _ => ⟨rfl, fun j p q hp => by simp at hp⟩
  | (i, p) :: r, (o, n, b) :: s, h => by
    simp only [ckPartsA, Bool.and_eq_true, beq_iff_eq] at h
    obtain ⟨h1, h2⟩ := ckPartsA_spec hg ht h.2
    refine ⟨by simpa using h1, fun j p' q' hp hq => ?_⟩
    cases j with
    | zero => simp at hp hq; subst hp; subst hq; exact ⟨h.1.1, ckO_spec hg ht h.1.2⟩
    | succ j => exact h2 j p' q' (by simpa using hp) (by simpa using hq)
  | [], _ :: _, h => by simp [ckPartsA] at h
  | _ :: _, [], h => by simp [ckPartsA] at h

theorem ckPartsI_spec {es : Nat} {t : Nat → V} {a : Act} (hg : GR x E) (ht : ∀ n, VR E (t n) (a.tmps.getD n undef)) : ∀ {ps : List (Nat × Operand)} {qs : List (Nat × O)}, ckPartsI ps qs = true →
    (ps.map fun (i, p) => (i, a.eval p)).length = (qs.map fun (i, b) => (i * es, es, b.ev x t)).length ∧ ∀ (j : Nat) p q, (ps.map fun (i, p) => (i, a.eval p))[j]? = some p → (qs.map fun (i, b) => (i * es, es, b.ev x t))[j]? = some q → (q.1 = p.1 * es ∧ q.2.1 = es) ∧ VR E q.2.2 p.2
  | [], [], _ => ⟨rfl, fun j p q hp => by simp at hp⟩
  | (i, p) :: r, (o, b) :: s, h => by
    simp only [ckPartsI, Bool.and_eq_true, beq_iff_eq] at h
    obtain ⟨h1, h2⟩ := ckPartsI_spec (es := es) hg ht h.2
    refine ⟨by simpa using h1, fun j p' q' hp hq => ?_⟩
    cases j with
    | zero => simp at hp hq; subst hp; subst hq; exact ⟨⟨by rw [h.1.1], rfl⟩, ckO_spec hg ht h.1.2⟩
    | succ j => exact h2 j p' q' (by simpa using hp) (by simpa using hq)
  | [], _ :: _, h => by simp [ckPartsI] at h
  | _ :: _, [], h => by simp [ckPartsI] at h

theorem ckAppT_spec {P : Program} {t1 t2 : TypeId} {es bt : Nat} {kt : Option TypeId} (hc : ckAppT P t1 t2 es bt kt = true) : ∃ e i z, AppT P t1 t2 es bt e i z ∧ ∀ T, kt = some T → T = e := by
  unfold ckAppT at hc
  split at hc
  · rename_i e he
    simp only [Bool.and_eq_true, decide_eq_true_eq] at hc
    obtain ⟨⟨⟨⟨hkt, h1⟩, h2⟩, h3⟩, h4⟩ := hc
    split at h2
    · rename_i i hi
      simp only [Bool.and_eq_true, beq_iff_eq] at h2
      obtain ⟨⟨h5, h6⟩, h7⟩ := h2
      split at h7
      · rename_i z hz
        refine ⟨e, i, z, ⟨he, ?_, hi, h5, h6, hz, by simpa using h7, h3, h4⟩, ckTy_spec hkt⟩
        split at h1
        · rename_i hu; exact .inl hu
        · rename_i e' hu; exact .inr ⟨e', hu⟩
        · cases h1
      · cases h7
    · cases h2
  · cases hc

/-- A bound, as both sides see it. -/
theorem bnd_spec {t : Nat → V} {a : Act} {d r : Nat} {P : Program} (hg : GR x E) (ht : ∀ n, VR E (t n) (a.tmps.getD n undef)) {p : Option Operand} {o : Option O} (hc : ckOo p o = true) (hb : bnd x t d o = some r) : Bd w P (p.map a.eval) d r := by
  cases p with
  | none =>
    cases o with
    | none => simp [bnd] at hb; exact hb.symm
    | some o => simp [ckOo] at hc
  | some p =>
    cases o with
    | none => simp [ckOo] at hc
    | some o =>
      have hv := ckO_spec (x := x) hg ht (p := p) (o := o) hc
      simp only [bnd] at hb
      split at hb
      · rename_i k n hk
        split at hb
        · rename_i hn
          cases hb
          rw [hk] at hv
          simp only [Option.map_some, Bd]
          generalize a.eval p = u at *
          cases hv
          exact ⟨k, by congr 1; omega⟩
        · cases hb
      · cases hb
end
end Go.Vs
