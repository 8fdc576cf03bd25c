/- Each instruction, as the machine runs it (7): bytes, lengths, sources, appends, copies. -/
import Derived.Test.YtpefpiccljohlaaZvRun6
namespace Go.Vs
open Go.RowKit
set_option linter.unusedSimpArgs false
set_option linter.unusedVariables false

section
variable {w0 w : World} {E : Env} {h : Hp} {x : X}

theorem made_bytes (w : World) (e : TypeId) (s : ByteArray) : Made w (Lib.bytesWorld w e s) (Lib.bytesCells w e s) where
  below := ⟨rfl, rfl, rfl, by rw [Lib.bytesWorld_size]; omega, fun k hk => Lib.bytesWorld_at_old w e s k hk⟩
  size := by rw [Lib.bytesWorld_size]; omega
  cell o := by simp [World.cell?, Lib.bytesWorld_at_new]
  free o ho := by simp [World.frozen?, Lib.bytesWorld_at_new]; omega

theorem bytes_vals (E : Env) (s : List UInt8) : Vals E (s.map fun c => .int .u8 c.toNat) (s.map fun c => .int .u8 c.toNat) :=
  ⟨by simp, fun j u hu => by
    rw [List.getElem?_map] at hu
    cases hs : s[j]? with
    | none => rw [hs] at hu; cases hu
    | some c =>
      rw [hs] at hu
      cases hu
      exact ⟨rfl, fun y hy => by rw [List.getElem?_map, hs] at hy; cases hy; exact .int _ _⟩⟩

theorem bytes_cells (w : World) (e : TypeId) (s : List UInt8) (j : Nat) (u : Value) (hu : (s.map fun c => Value.int .u8 c.toNat)[j]? = some u) : (Lib.bytesCells w e ⟨s.toArray⟩)[j]? = some u := by
  have hj : j < s.length := by
    rcases Nat.lt_or_ge j s.length with h' | h'
    · exact h'
    · rw [List.getElem?_eq_none (by simpa using h')] at hu; cases hu
  unfold Lib.bytesCells
  rw [Array.getElem?_append_left (by simpa using hj)]
  simpa using hu

theorem flat_bytes (s : List UInt8) : flat (s.map fun c => V.int .u8 c.toNat) = s.map fun c => V.int .u8 c.toNat := by
  induction s with
  | nil => rfl
  | cons c r ih => simp only [flat] at ih ⊢; simp [V.cells, ih]

theorem grownCap_ge (w : World) (n o : Nat) (e : TypeId) : n ≤ grownCap w n o e := by simp [grownCap, Question.cut]

theorem does_s2b {fz : Bool} {s1 d e : TypeId} {s : List UInt8} {u : Value} {td : TypeDesc} (H : SR w0 E h w) (h1 : x.P.underlying s1 = some td) (h2 : x.P.underlying d = some (.slice e)) (h3 : x.P.underlying e = some (.int .u8)) (ha : VR E (.str s) u) :
    Does x w0 E w ((do pure (.value (← convert s1 d u)) : Sem Next).run x.P w)
      (some (if fz then .val (.lst false (s.map fun c => .int .u8 c.toNat)) h else newSl h s.length 1 false (s.map fun c => .int .u8 c.toNat))) := by
  cases ha
  have hr := Lib.run_convert_string_bytes (P := x.P) w s1 d e ⟨s.toArray⟩ h1 h2 h3
  have hsz : (⟨s.toArray⟩ : ByteArray).size = s.length := rfl
  rw [hsz] at hr
  have hm := made_bytes w e ⟨s.toArray⟩
  have hc := bytes_cells w e s
  have hcap := grownCap_ge w s.length 0 e
  have hcs : (Lib.bytesCells w e ⟨s.toArray⟩).size = grownCap w s.length 0 e := by simp [Lib.bytesCells, hsz]; omega
  cases fz with
  | true =>
    refine ⟨_, E.ice w.heap.size _, _, Le.ice H (Lib.bytesCells w e ⟨s.toArray⟩), by simp only [Sem.run_bind, hr, Result.andThen_ok]; rfl, ?_, H.newFrz hm⟩
    have hlen : (s.map fun c => V.int .u8 c.toNat).length = s.length := by simp
    have key := VR.lst (E := E.ice w.heap.size (Lib.bytesCells w e ⟨s.toArray⟩)) false (s.map fun c => V.int .u8 c.toNat) 1 ⟨w.heap.size, 0, none⟩ w.heap.size 0 (grownCap w s.length 0 e) (fun j => .int .u8 (s.getD j 0).toNat)
      (by rw [hlen]; exact hcap) (by simp) (by simp [V.cells]) (fun _ => rfl)
      (fun j hj => by
        rw [flat_bytes, hlen] at hj
        simp only [Env.ice, if_pos, Nat.zero_add]
        exact hc j _ (by rw [List.getElem?_map, List.getElem?_eq_getElem hj]; simp [List.getD, List.getElem?_eq_getElem hj]))
      (fun j hj => by
        have hj' := hj
        rw [flat_bytes, hlen] at hj'
        have : (flat (s.map fun c => V.int .u8 c.toNat))[j] = .int .u8 (s.getD j 0).toNat := by
          simp [flat_bytes, List.getD, List.getElem?_eq_getElem hj']
        rw [this]; exact .int _ _)
      (fun j hj => rfl)
    rw [hlen] at key
    exact key
  | false =>
    refine ⟨_, E.add (newLoc w (Lib.bytesCells w e ⟨s.toArray⟩).size), _, Le.add _ _, by simp only [Sem.run_bind, hr, Result.andThen_ok]; rfl, ?_, H.newCells hm (bytes_vals E s) hc⟩
    exact VR.newSl H _ _ _ _ _ _ _ (Nat.le_refl _) hcap (by simp) (by rw [hcs]; omega)

/-- What a slice or a string gives, element by element. -/
theorem src_spec {es n : Nat} {a : V} {u : Value} {ys : List V} (H : SR w0 E h w) (ha : VR E a u) (hs : src h es a = some (n, ys)) :
    (Builtin.lenOf u).run x.P w = .ok n w ∧ ys.length = n * es ∧ ∃ vs, Vals E ys vs ∧ ∀ m, m ≤ n → (Builtin.firstCells es m u).run x.P w = .ok (vs.take (m * es)).toArray w := by
  unfold src at hs
  split at hs
  · cases hs
    cases ha
    exact ⟨rfl, by simp, [], ⟨rfl, fun j u hu => by simp at hu⟩, fun m hm => by simp [Builtin.firstCells]⟩
  · rename_i b off len cap ex es' ag
    split at hs
    · rename_i he
      subst he
      cases hr : rd h (.ptr b off) (len * es') with
      | none => rw [hr] at hs; cases hs
      | some l =>
        rw [hr] at hs
        simp only [Option.map_some, Option.some.injEq, Prod.mk.injEq] at hs
        obtain ⟨rfl, rfl⟩ := hs
        simp only [rd] at hr
        split at hr
        · rename_i cs hg
          obtain ⟨lc, hm, hb⟩ := H.live hg
          obtain ⟨vs, hrow⟩ := hb.row hr
          have hln := (sub_spec hr).2.1
          cases ha with
          | sl _ _ _ _ _ _ _ ad cap' hn hl hc hex hh =>
            obtain ⟨q1, q2⟩ := hh lc hm
            refine ⟨rfl, hln, vs, hrow.vals, fun m hmn => ?_⟩
            rcases q1 with q1 | q1
            · have : m = 0 := by omega
              subst this
              simp [Builtin.firstCells, loadCells, loadCellsFrom]
            · rw [q1]
              simp only [Builtin.firstCells]
              have hl2 : (vs.take (m * es')).length = m * es' := by
                rw [List.length_take, hrow.1, hln]
                exact Nat.min_eq_left (Nat.mul_le_mul_right _ hmn)
              have := run_loadCells_list (P := x.P) w ⟨lc.b, lc.base + off, none⟩ (vs.take (m * es')) (fun j v hv => by
                rw [Addr.add_none]
                refine (hrow.2 j v ?_).1
                rw [List.getElem?_take] at hv
                split at hv
                · exact hv
                · cases hv)
              rwa [hl2] at this
        · cases hr
    · cases hs
  · rename_i ex xs
    split at hs
    · rename_i hall
      simp only [Option.some.injEq, Prod.mk.injEq] at hs
      obtain ⟨rfl, rfl⟩ := hs
      have hfl : (flat xs).length = xs.length * es := by have := (flat_take_drop xs hall 0 xs.length (by omega) (Nat.le_refl _)).1; simpa using this
      cases ha with
      | lst _ _ es' ad b p cap vals hc hex hes hne g1 g2 g3 =>
        obtain ⟨vs, hl, hv⟩ := exists_list (flat xs).length vals
        refine ⟨rfl, hfl, vs, ⟨hl, fun j u hu => ?_⟩, fun m hmn => ?_⟩
        · obtain ⟨rfl, hj⟩ := hv j u hu
          exact ⟨g3 j hj, fun y hy => by rw [List.getElem?_eq_getElem hj] at hy; cases hy; exact g2 j hj⟩
        · simp only [Builtin.firstCells]
          have hl2 : (vs.take (m * es)).length = m * es := by
            rw [List.length_take, hl, hfl]
            exact Nat.min_eq_left (Nat.mul_le_mul_right _ hmn)
          have := run_loadCells_list (P := x.P) w ad (vs.take (m * es)) (fun j v hv' => by
            have hj : j < m * es := by rw [← hl2]; exact (List.getElem?_eq_some_iff.1 hv').1
            have hx : xs ≠ [] := fun e => by rw [e] at hmn; simp at hmn; rw [hmn] at hj; simp at hj
            rw [hne hx, Addr.add_none]
            rw [List.getElem?_take_of_lt hj] at hv'
            obtain ⟨rfl, hj2⟩ := hv j v hv'
            exact H.frz b (p + j) _ (g1 j hj2))
          rwa [hl2] at this
    · cases hs
  · rename_i s
    split at hs
    · rename_i he
      subst he
      simp only [Option.some.injEq, Prod.mk.injEq] at hs
      obtain ⟨rfl, rfl⟩ := hs
      cases ha
      refine ⟨rfl, by simp, _, bytes_vals E s, fun m hmn => ?_⟩
      simp only [Builtin.firstCells, Sem.run_pure, Result.ok.injEq, and_true, Nat.mul_one]
      rw [Lib.extract_eq]
      simp [List.map_take]
    · cases hs
  · cases hs

theorem does_b2s {s1 d e : TypeId} {a : V} {u : Value} {n : Nat} {cs : List V} {td : TypeDesc} (H : SR w0 E h w) (h1 : x.P.underlying s1 = some (.slice e)) (h2 : x.P.underlying d = some .string) (h3 : x.P.underlying e = some (.int .u8)) (ha : VR E a u)
    (hns : a.isStr = false) (hs : src h 1 a = some (n, cs)) (hb : ∀ c ∈ cs, c.isByte = true) :
    Does x w0 E w ((do pure (.value (← convert s1 d u)) : Sem Next).run x.P w) (some (.val (.str (cs.map fun | .int _ n => UInt8.ofNat n.toNat | _ => 0)) h)) := by
  obtain ⟨hlen, hl, vs, hv, hf⟩ := src_spec (x := x) H ha hs
  have hshape : (u = .slice none 0 0) ∨ ∃ ad cap, u = .slice (some ad) n cap := by
    cases a with
    | nsl => cases ha; exact .inl rfl
    | sl b off len cap ex es ag =>
      cases ha
      simp only [src] at hs
      split at hs
      · simp only [Option.map_eq_some_iff, Prod.mk.injEq] at hs; obtain ⟨_, _, rfl, _⟩ := hs; exact .inr ⟨_, _, rfl⟩
      · cases hs
    | lst ex xs =>
      cases ha
      simp only [src] at hs
      split at hs
      · simp only [Option.some.injEq, Prod.mk.injEq] at hs; obtain ⟨rfl, _⟩ := hs; exact .inr ⟨_, _, rfl⟩
      · cases hs
    | str s => simp [V.isStr] at hns
    | _ => simp [src] at hs
  have key : ∃ r : ByteArray, (Conv.bytesToString u).run x.P w = .ok (.string r) w ∧ r = ⟨(cs.map fun | .int _ n => UInt8.ofNat n.toNat | _ => 0).toArray⟩ := by
    rcases hshape with rfl | ⟨ad, cap, rfl⟩
    · cases ha
      simp [src] at hs
      obtain ⟨rfl, rfl⟩ := hs
      exact ⟨.empty, by simp [Conv.bytesToString], rfl⟩
    · have hl2 := hf n (Nat.le_refl _)
      simp only [Builtin.firstCells, Nat.mul_one] at hl2
      rw [List.take_of_length_le (by rw [hv.1, hl]; omega)] at hl2
      have hvs : vs = (cs.map fun | .int _ n => n | _ => 0).map (Value.int .u8) := by
        refine List.ext_getElem? fun j => ?_
        rcases Nat.lt_or_ge j cs.length with hj | hj
        · have hjv : j < vs.length := by rw [hv.1]; exact hj
          have h0 := (hv.2 j _ (List.getElem?_eq_getElem hjv)).2 _ (List.getElem?_eq_getElem hj)
          have hbyte := hb _ (List.getElem_mem hj)
          rw [List.getElem?_eq_getElem hjv, List.map_map, List.getElem?_map, List.getElem?_eq_getElem hj]
          generalize cs[j] = c at *
          generalize vs[j] = v at *
          cases h0 <;> simp [V.isByte] at hbyte
          rename_i k m
          cases k <;> simp [V.isByte] at hbyte
          rfl
        · rw [List.getElem?_eq_none (by rw [hv.1]; exact hj), List.getElem?_eq_none (by simpa using hj)]
      rw [hvs] at hl2
      refine ⟨_, run_bytesToString w ad n cap _ hl2, ?_⟩
      have hfold : ∀ (ns : List Int) (l : List UInt8), ns.foldl (fun r n => r.push (UInt8.ofNat n.toNat)) (⟨l.toArray⟩ : ByteArray) = ⟨(l ++ ns.map fun n => UInt8.ofNat n.toNat).toArray⟩ := by
        intro ns
        induction ns with
        | nil => intro l; simp
        | cons m r ih =>
          intro l
          rw [List.foldl_cons]
          have : (⟨l.toArray⟩ : ByteArray).push (UInt8.ofNat m.toNat) = ⟨(l ++ [UInt8.ofNat m.toNat]).toArray⟩ := by simp [ByteArray.push]
          rw [this, ih]; simp
      have h0 := hfold (cs.map fun | .int _ n => n | _ => 0) []
      rw [List.nil_append, List.map_map] at h0
      rw [show (ByteArray.empty : ByteArray) = ⟨([] : List UInt8).toArray⟩ from rfl, h0]
      congr 2
      refine List.map_congr_left fun c _ => ?_
      cases c <;> rfl
  obtain ⟨r, hr, rfl⟩ := key
  refine Does.same H ?_ (.str _)
  have : (convert s1 d u).run x.P w = (Conv.bytesToString u).run x.P w := by
    rcases hshape with rfl | ⟨ad, cap, rfl⟩ <;>
      simp only [convert, Sem.run_bind, run_underlying h1, run_underlying h2, run_underlying h3, Result.andThen_ok]
  simp only [Sem.run_bind, this, hr, Result.andThen_ok]
  rfl
end
end Go.Vs
