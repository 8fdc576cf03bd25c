/- Each instruction, as the machine runs it (9): copies, maps, the rest. -/
import Derived.Test.YtpefpiccljohlaaZvRun8
namespace Go.Vs
open Go.RowKit
set_option linter.unusedSimpArgs false
set_option linter.unusedVariables false

section
variable {w0 w w' : World} {E : Env} {h : Hp} {x : X}

theorem Vals.take {l : List V} {vs : List Value} (hv : Vals E l vs) (n : Nat) : Vals E (l.take n) (vs.take n) := by
  have := hv.slice 0 n
  simpa using this

theorem does_cpy {t1 t2 ty e : TypeId} {es n len b off cap : Nat} {ex ag : Bool} {a : V} {au du : Value} {ys : List V} {h' : Hp} (H : SR w0 E h w) (hu : x.P.underlying t1 = some (.slice e)) (hs : tSize x.P e = some es) (hd : VR E (.sl b off len cap ex es ag) du)
    (ha : VR E a au) (hsrc : src h es a = some (n, ys)) (hw : wr h b off (ys.take (Min.min n len * es)) = some h') :
    Does x w0 E w ((do pure (.value (← Builtin.copy_ #[t1, t2] ty #[du, au])) : Sem Next).run x.P w) (some (.val (.int .i64 (Min.min n len : Nat)) h')) := by
  obtain ⟨hl, hyl, vs, hv, hf⟩ := src_spec (x := x) H ha hsrc
  have hf1 := hf (Min.min n len) (Nat.min_le_left _ _)
  obtain ⟨l, hm, hsr, hst⟩ := H.write (P := x.P) hw (hv.take _)
  cases hd with
  | sl _ _ _ _ _ _ _ ad cap' hn hl' hc hex hh =>
    obtain ⟨q1, q2⟩ := hh l hm
    refine ⟨_, E, _, Le.refl E, ?_, .int _ _, hsr⟩
    have hst' : (storeCells ad (vs.take (Min.min n len * es))).run x.P w = .ok () (w.setCells l.b (l.base + off) (vs.take (Min.min n len * es))) := by
      rcases q1 with q1 | q1
      · have h0 : vs.take (Min.min n len * es) = [] := by
          have : len = 0 := by omega
          subst this; simp
        rw [h0]; rfl
      · rw [q1]; exact hst
    have hmin : Nat.min n len = Min.min n len := rfl
    simp [Builtin.copy_, run_underlying hu, run_size hs, hl, hmin, hf1, hst', goInt]

theorem does_cpy_nil {t1 t2 ty e : TypeId} {es n : Nat} {a : V} {au : Value} {ys : List V} (H : SR w0 E h w) (hu : x.P.underlying t1 = some (.slice e)) (hs : tSize x.P e = some es) (ha : VR E a au) (hsrc : src h es a = some (n, ys)) :
    Does x w0 E w ((do pure (.value (← Builtin.copy_ #[t1, t2] ty #[.slice none 0 0, au])) : Sem Next).run x.P w) (some (.val (.int .i64 0) h)) := by
  obtain ⟨hl, hyl, vs, hv, hf⟩ := src_spec (x := x) H ha hsrc
  have hf1 := hf 0 (Nat.zero_le _)
  refine Does.same H ?_ (.int _ _)
  have hmin : Nat.min n 0 = 0 := Nat.min_eq_right (Nat.zero_le _)
  simp [Builtin.copy_, run_underlying hu, run_size hs, hl, hmin, hf1, goInt]

theorem zeroVals {z : Value} {zs : List V} (hz : Vals E zs z.cells.toList) (n : Nat) : Vals E (List.replicate n zs).flatten (Builtin.zeroCells z.cells n).toList := by
  have hsz : z.cells.size = zs.length := by simpa using hz.1
  refine ⟨by simp [Builtin.zeroCells, hsz], fun j u hu => ?_⟩
  simp only [Builtin.zeroCells, Array.toList_map, Array.toList_range, List.getElem?_map] at hu
  cases hj : (List.range (n * z.cells.size))[j]? with
  | none => rw [hj] at hu; cases hu
  | some i =>
    rw [hj] at hu
    have hij : i = j ∧ j < n * z.cells.size := by
      rcases Nat.lt_or_ge j (n * z.cells.size) with h' | h'
      · rw [List.getElem?_range h'] at hj; cases hj; exact ⟨rfl, h'⟩
      · rw [List.getElem?_eq_none (by simpa using h')] at hj; cases hj
    obtain ⟨rfl, hlt⟩ := hij
    have hpos : 0 < z.cells.size := by
      rcases Nat.eq_zero_or_pos z.cells.size with h0 | h0
      · rw [h0] at hlt; simp at hlt
      · exact h0
    have hmod : i % z.cells.size < z.cells.size := Nat.mod_lt _ hpos
    simp only [Option.map_some, Option.some.injEq] at hu
    rw [getElem!_pos z.cells _ hmod] at hu
    have h2 := hz.2 (i % z.cells.size) u (by rw [← hu]; simp [hmod])
    refine ⟨h2.1, fun y hy => h2.2 y ?_⟩
    have key : ∀ (n i : Nat), i < n * zs.length → (List.replicate n zs).flatten[i]? = zs[i % zs.length]? := by
      intro n
      induction n with
      | zero => intro i hi; simp at hi
      | succ n ih =>
        intro i hi
        rw [List.replicate_succ, List.flatten_cons]
        rcases Nat.lt_or_ge i zs.length with h' | h'
        · rw [List.getElem?_append_left h', Nat.mod_eq_of_lt h']
        · rw [List.getElem?_append_right h', ih (i - zs.length) (by rw [Nat.succ_mul] at hi; omega), Nat.mod_eq_sub_mod h']
    rw [hsz]
    rw [← key n i (by rw [← hsz]; exact hlt)]
    exact hy

theorem does_clr {t ty e : TypeId} {z : Value} {zs : List V} {b off len cap es : Nat} {ex ag : Bool} {du : Value} {h' : Hp} (H : SR w0 E h w) (hu : x.P.underlying t = some (.slice e)) (hz : tZero x.P e = some z) (hc : ckVs z.cells.toList zs = true)
    (hd : VR E (.sl b off len cap ex es ag) du) (h0 : len ≠ 0) (hw : wr h b off (List.replicate len zs).flatten = some h') :
    Does x w0 E w ((do pure (.value (← Builtin.clear_ #[t] ty #[du])) : Sem Next).run x.P w) (some (.val (.tup []) h')) := by
  obtain ⟨l, hm, hsr, hst⟩ := H.write (P := x.P) hw (zeroVals (ckVs_spec hc) len)
  cases hd with
  | sl _ _ _ _ _ _ _ ad cap' hn hl' hcap hex hh =>
    obtain ⟨q1, q2⟩ := hh l hm
    have had : ad = ⟨l.b, l.base + off, none⟩ := q1.resolve_left (by omega)
    subst had
    obtain ⟨len, rfl⟩ : ∃ k, len = k + 1 := ⟨len - 1, by omega⟩
    refine ⟨_, E, _, Le.refl E, ?_, .tup [] #[] rfl (fun j x v hx => by simp at hx), hsr⟩
    simp [Builtin.clear_, run_underlying hu, run_zero hz, hst]

theorem does_clr0 {t ty e : TypeId} {a : V} {du : Value} (H : SR w0 E h w) (hu : x.P.underlying t = some (.slice e)) (hd : VR E a du) (ha : a = .nsl ∨ ∃ b off cap ex es ag, a = .sl b off 0 cap ex es ag) :
    Does x w0 E w ((do pure (.value (← Builtin.clear_ #[t] ty #[du])) : Sem Next).run x.P w) (some (.val (.tup []) h)) := by
  refine Does.same (u := .tuple #[]) H ?_ (.tup [] #[] rfl (fun j x v hx => by simp at hx))
  rcases ha with rfl | ⟨b, off, cap, ex, es, ag, rfl⟩ <;> cases hd <;> simp [Builtin.clear_, run_underlying hu]

theorem does_arrp {t e : TypeId} {n es : Nat} {a v : V} {u : Value} (H : SR w0 E h w) (hu : x.P.underlying t = some (.array n e)) (ha : VR E a u)
    (hv : (∃ b off len cap ex ag, a = .sl b off len cap ex es ag ∧ n ≤ len ∧ 0 < n ∧ v = .ptr b off) ∨ (∃ ex xs, a = .lst ex xs ∧ n ≤ xs.length ∧ 0 < n ∧ v = .fp (flat xs) 0)) :
    Does x w0 E w ((do pure (.value (← Instr.arrayAt t u)) : Sem Next).run x.P w) (some (.val v h)) := by
  rcases hv with ⟨b, off, len, cap, ex, ag, rfl, hle, hn, rfl⟩ | ⟨ex, xs, rfl, hle, hn, rfl⟩
  · cases ha with
    | sl _ _ _ _ _ _ _ ad cap' hnn hl' hcap hex hh =>
      refine Does.same (u := .pointer (some ad)) H ?_ (.ptr b off ad hnn fun l hl => ?_)
      · simp only [Instr.arrayAt, Sem.run_bind, run_underlying hu, Result.andThen_ok, Sem.run_ite]
        rw [if_neg (by omega)]; rfl
      · obtain ⟨q1, _⟩ := hh l hl
        exact q1.resolve_left (by omega)
  · cases ha with
    | lst _ _ es' ad b p cap vals hc hex hes hne g1 g2 g3 =>
      have had := hne (by intro e; rw [e] at hle; simp at hle; omega)
      subst had
      refine Does.same (u := .pointer (some ⟨b, p, none⟩)) H ?_ ?_
      · simp only [Instr.arrayAt, Sem.run_bind, run_underlying hu, Result.andThen_ok, Sem.run_ite]
        rw [if_neg (by omega)]; rfl
      · have := VR.fp (E := E) (flat xs) 0 b p vals g1 g2 g3
        simpa using this

theorem does_mksl {t e : TypeId} {z : Value} {zs : List V} {es bt : Nat} {ag : Bool} {i : TypeInfo} {l c : Int} (H : SR w0 E h w) (hu : x.P.underlying t = some (.slice e)) (hi : x.P.info? e = some i) (hz : i.zero = some z) (hsz : i.size = es) (hbt : i.bytes = bt) (hzs : z.cells.size = es)
    (hc : ckVs z.cells.toList zs = true) (h0 : 0 ≤ l) (h1 : l ≤ c) (h2 : c * bt ≤ room) (h3 : c ≤ room) :
    Does x w0 E w ((do pure (.value (← Instr.makeSlice t (.int .i64 l) (.int .i64 c))) : Sem Next).run x.P w)
      (some (.val (.sl h.length 0 l.toNat c.toNat true es ag) (h ++ [some (.cells (List.replicate c.toNat zs).flatten)]))) := by
  have hwrap : ∀ n : Int, 0 ≤ n → n ≤ room → IntKind.i64.wrap n = n := fun n a b => by
    unfold room at b
    rw [IntKind.wrap]
    simp [IntKind.bits, IntKind.signed]
    omega
  have wl := hwrap l h0 (by omega)
  have wc := hwrap c (by omega) h3
  have n1 : ¬ (c < 0) := by omega
  have n2 : ¬ (281474976710656 < (bt : Int) * c) := by rw [Int.mul_comm]; unfold room at h2; omega
  have n3 : ¬ (l < 0) := by omega
  have n4 : ¬ (c < l) := by omega
  have hrow : ∃ us : Array Value, us.toList = (Builtin.zeroCells z.cells c.toNat).toList ∧ ((do let zero ← (if c.toNat * es = 0 then pure #[] else do pure (← zeroValue e).cells : Sem (Array Value)); pure ((Array.range (c.toNat * es)).map (zero[· % zero.size]!)) : Sem (Array Value)).run x.P w = .ok us w) := by
    have hzz : tZero x.P e = some z := by simp [tZero, hi, hz]
    by_cases hn : c.toNat * es = 0
    · exact ⟨#[], by simp [Builtin.zeroCells, hzs, hn], by simp [hn]⟩
    · exact ⟨(Array.range (c.toNat * es)).map (fun i => z.cells[i % es]!), by simp [Builtin.zeroCells, hzs], by simp [hn, run_zero hzz, hzs]⟩
  obtain ⟨us, hus, hrun⟩ := hrow
  have hussz : us.size = c.toNat * es := by
    have := congrArg List.length hus
    simpa [zeroCells_size, hzs] using this
  have hr : (Instr.makeSlice t (.int .i64 l) (.int .i64 c)).run x.P w = .ok (.slice (some ⟨w.heap.size, 0, none⟩) l.toNat c.toNat) (w.alloc (.cells us e)) := by
    have hzz : tZero x.P e = some z := by simp [tZero, hi, hz]
    by_cases hn : c.toNat * es = 0
    · have hu0 : us = #[] := by apply Array.eq_empty_of_size_eq_zero; rw [hussz, hn]
      subst hu0
      simp [Instr.makeSlice, run_underlying hu, asInt, asIntOf, typeInfo, hi, hbt, wl, wc, n1, n2, n3, n4, sizeOf, hsz, hn, newRow]
      have e0 : (Array.map (fun (_ : Nat) => (default : Value)) (Array.range 0)) = #[] := by simp
      rw [e0]
    · simp only [hn, if_false] at hrun
      simp only [Sem.run_bind, run_zero hzz, Result.andThen_ok, Sem.run_pure, Result.ok.injEq, and_true] at hrun
      simp [Instr.makeSlice, run_underlying hu, asInt, asIntOf, typeInfo, hi, hbt, wl, wc, n1, n2, n3, n4, sizeOf, hsz, hn, run_zero hzz, newRow, hrun]
  refine ⟨_, E.add (newLoc w us.size), _, Le.add _ _, by simp only [Sem.run_bind, hr, Result.andThen_ok]; rfl, VR.newSl H _ _ _ _ _ _ _ (by omega) (Nat.le_refl _) (fun _ => rfl) (by rw [hussz]; exact Nat.le_refl _), ?_⟩
  have hv := zeroVals (E := E) (z := z) (ckVs_spec hc) c.toNat
  rw [← hus] at hv
  exact H.newCells (Made.alloc w us e) hv (fun j u hu => by simpa using hu)

theorem does_slca {t e : TypeId} {n es l u m : Nat} {ag : Bool} {a v : V} {pu : Value} {lo hi mx : Option Value} (H : SR w0 E h w) (hu : x.P.underlying t = some (.array n e)) (hs : tSize x.P e = some es) (hag : ag = false → es = 1) (ha : VR E a pu)
    (hl : Bd w x.P lo 0 l) (hh : Bd w x.P hi n u) (hm : Bd w x.P mx n m) (h1 : l ≤ u) (h2 : u ≤ m) (h3 : m ≤ n) (hx : mx = none → m = n) (hy : mx ≠ none → hi ≠ none)
    (hv : (∃ b o, a = .ptr b o ∧ (rd h (.ptr b o) (n * es)).isSome = true ∧ v = .sl b (o + l * es) (u - l) (m - l) true es ag) ∨ (∃ cs o c, a = .fp cs o ∧ sub cs o (n * es) = some c ∧ v = .lst (u == m) (((chunk es ag n c).take u).drop l))) :
    Does x w0 E w ((do pure (.value (← Instr.sliceAt t pu lo hi mx)) : Sem Next).run x.P w) (some (.val v h)) := by
  have hb := run_bounds (P := x.P) (w := w) (isSlice := false) (len := n) (cap := n) hm hh hl h1 h2 h3 hx hy
  have hrun : ∀ ad : Addr, (Instr.sliceAt t (.pointer (some ad)) lo hi mx).run x.P w = .ok (.slice (some (if m = l then ad else ad.add (l * es))) (u - l) (m - l)) w := fun ad => by
    simp only [Instr.sliceAt, Sem.run_bind, run_underlying hu, Result.andThen_ok, Instr.sureAddr, Sem.run_pure, hb, run_size hs]
  rcases hv with ⟨b, o, rfl, hsome, rfl⟩ | ⟨cs, o, c, rfl, hsub, rfl⟩
  · cases ha with
    | ptr _ _ ad hn' had =>
      refine Does.same H (by simp only [Sem.run_bind, hrun, Result.andThen_ok]; rfl) (.sl _ _ _ _ _ _ _ _ _ hn' (by omega) (Nat.le_refl _) (fun _ => rfl) fun lc hlc => ?_)
      simp only [rd] at hsome
      split at hsome
      · rename_i cs ty0 hg
        obtain ⟨lc2, hm2, hbr⟩ := H.live hg
        rw [hlc] at hm2; cases hm2
        have hle : o + n * es ≤ cs.length := by
          unfold sub at hsome
          split at hsome
          · assumption
          · cases hsome
        have h5 : l * es + (m - l) * es ≤ n * es := by rw [← Nat.add_mul]; exact Nat.mul_le_mul_right _ (by omega)
        refine ⟨?_, fun j hj => ?_⟩
        · by_cases hml : m = l
          · left; omega
          · right; rw [if_neg hml, had lc hlc, Addr.add_none]; congr 1; omega
        · have := (hbr.2.2.2.2 (o + l * es + j) (by omega)).1
          rwa [show lc.base + (o + l * es + j) = lc.base + (o + l * es) + j by omega] at this
      · cases hsome
  · obtain ⟨b, p, vs, hpu, hrow⟩ := fp_row H ha hsub
    subst hpu
    have hlen := (sub_spec hsub).2.1
    -- the whole array as a frozen slice, then cut
    have hfz : ∀ (j : Nat) u, vs[j]? = some u → E.frz b (p + j) = some u := by
      cases ha with
      | fp _ _ b' p' vals g1 g2 g3 =>
        intro j u huj
        have hj : j < vs.length := (List.getElem?_eq_some_iff.1 huj).1
        rw [hrow.1, hlen] at hj
        have hle := (sub_spec hsub).1
        have := g1 (o + j) (by omega)
        rw [show p' + (o + j) = p' + o + j by omega] at this
        rw [this]
        have h1 := H.frz _ _ _ this
        have h2 := (hrow.2 j u huj).1
        rw [h1] at h2; exact h2
    have hone : ∀ y ∈ c, y.one = true := fun y hy => by
      obtain ⟨j, hj, rfl⟩ := List.getElem_of_mem hy
      have hjv : j < vs.length := by rw [hrow.1]; exact hj
      have := hrow.vals.2 j _ (List.getElem?_eq_getElem hjv)
      rw [← (this.2 _ (List.getElem?_eq_getElem hj)).one]; exact this.1
    obtain ⟨c1, c2, c3⟩ := chunk_spec es ag n c hlen hag hone
    obtain ⟨f1, f2⟩ := flat_take_drop (chunk es ag n c) c3 l u h1 (by rw [c1]; omega)
    have hlen2 : (((chunk es ag n c).take u).drop l).length = u - l := by simp [c1]; omega
    have hsubv : Vals E (flat (((chunk es ag n c).take u).drop l)) ((vs.drop (l * es)).take ((u - l) * es)) := by
      have hv := hrow.vals.slice (l * es) ((u - l) * es)
      have he : (c.drop (l * es)).take ((u - l) * es) = flat (((chunk es ag n c).take u).drop l) := by
        refine List.ext_getElem? fun j => ?_
        rcases Nat.lt_or_ge j ((u - l) * es) with hj | hj
        · rw [List.getElem?_take_of_lt hj, List.getElem?_drop, f2 j hj, c2]
        · rw [List.getElem?_eq_none (by rw [List.length_take]; omega), List.getElem?_eq_none (by rw [f1]; exact hj)]
      rwa [he] at hv
    refine Does.same H (by simp only [Sem.run_bind, hrun, Result.andThen_ok]; rfl) ?_
    have h5 : l * es + (u - l) * es ≤ n * es := by rw [← Nat.add_mul]; exact Nat.mul_le_mul_right _ (by omega)
    have hvl : vs.length = n * es := by rw [hrow.1, hlen]
    have hgetv : ∀ j, j < (u - l) * es → ∃ hj : l * es + j < vs.length, ((vs.drop (l * es)).take ((u - l) * es))[j]? = some vs[l * es + j] := fun j hj => ⟨by omega, by
      rw [List.getElem?_take_of_lt hj, List.getElem?_drop, List.getElem?_eq_getElem (by omega)]⟩
    have key := VR.lst (E := E) (u == m) (((chunk es ag n c).take u).drop l) es (if m = l then ⟨b, p, none⟩ else (⟨b, p, none⟩ : Addr).add (l * es)) b (p + l * es) (m - l) (fun j => vs.getD (l * es + j) undef) (by rw [hlen2]; omega)
      (fun hx => by simp only [beq_iff_eq] at hx; rw [hlen2, hx])
      (fun y hy => c3 y (List.mem_of_mem_take (List.mem_of_mem_drop hy)))
      (fun hne' => by
        have hUl : l < u := by
          rcases Nat.lt_or_ge l u with h | h
          · exact h
          · exact absurd (List.eq_nil_of_length_eq_zero (by rw [hlen2]; omega)) hne'
        rw [if_neg (by omega), Addr.add_none])
      (fun j hj => by
        rw [f1] at hj
        rw [Nat.add_assoc]
        exact hfz _ _ (by rw [List.getElem?_eq_getElem (by omega)]; simp [List.getD, List.getElem?_eq_getElem (show l * es + j < vs.length by omega)]))
      (fun j hj => by
        have hj' := hj; rw [f1] at hj'
        obtain ⟨hjv, he⟩ := hgetv j hj'
        have := (hsubv.2 j _ he).2 _ (List.getElem?_eq_getElem hj)
        simpa [List.getD, List.getElem?_eq_getElem hjv] using this)
      (fun j hj => by
        have hj' := hj; rw [f1] at hj'
        obtain ⟨hjv, he⟩ := hgetv j hj'
        have := (hsubv.2 j _ he).1
        simpa [List.getD, List.getElem?_eq_getElem hjv] using this)
    rw [hlen2] at key
    exact key
end
end Go.Vs
