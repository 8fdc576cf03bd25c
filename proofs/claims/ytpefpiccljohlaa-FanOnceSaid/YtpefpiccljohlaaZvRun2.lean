/- Each instruction, as the machine runs it (2): aggregates, slices made, addresses. -/
import Derived.Test.YtpefpiccljohlaaZvRun
namespace Go.Vs
open Go.RowKit

section
variable {w0 w : World} {E : Env} {h : Hp} {x : X}

theorem vals_setAll {cs xs : List V} {us vs : List Value} {o : Nat} (hc : Vals E cs us) (hx : Vals E xs vs) (hle : o + xs.length ≤ cs.length) :
    Vals E (setAll cs o xs) (vs.zipIdx.foldl (fun (a : List Value) (c : Value × Nat) => a.set (o + c.2) c.1) us) := by
  have key : ∀ (vs : List Value) (k : Nat) (us : List Value), (vs.zipIdx k).foldl (fun (a : List Value) (c : Value × Nat) => a.set (o + c.2) c.1) us = us.mapIdx fun j u => if o + k ≤ j ∧ j < o + k + vs.length then vs.getD (j - (o + k)) undef else u := by
    intro vs
    induction vs with
    | nil =>
      intro k us
      refine List.ext_getElem? fun j => ?_
      simp only [List.zipIdx_nil, List.foldl_nil, List.getElem?_mapIdx, List.length_nil, Nat.add_zero]
      rw [show (fun u => if o + k ≤ j ∧ j < o + k then List.getD [] (j - (o + k)) undef else u) = id from funext fun u => if_neg (by omega)]
      simp
    | cons v r ih =>
      intro k us
      simp only [List.zipIdx_cons, List.foldl_cons, ih]
      refine List.ext_getElem? fun j => ?_
      simp only [List.getElem?_mapIdx, List.getElem?_set, List.length_cons]
      by_cases h1 : o + k = j
      · subst h1
        by_cases h2 : o + k < us.length
        · simp only [h2, if_true, List.getElem?_eq_getElem, Option.map_some, Nat.le_refl, true_and, Nat.sub_self]
          rw [if_neg (by omega), if_pos (by omega)]
          simp
        · simp [h2]
      · simp only [if_neg h1]
        congr 1
        funext u
        by_cases h2 : o + (k + 1) ≤ j ∧ j < o + (k + 1) + r.length
        · rw [if_pos h2, if_pos (by omega)]
          rw [show j - (o + k) = (j - (o + (k + 1))) + 1 by omega]
          simp
        · rw [if_neg h2]
          by_cases h3 : o + k ≤ j ∧ j < o + k + (r.length + 1)
          · omega
          · rw [if_neg h3]
  rw [key vs 0 us]
  refine ⟨by simp [setAll_length, hc.1], fun j u hu => ?_⟩
  simp only [List.getElem?_mapIdx] at hu
  cases hj : us[j]? with
  | none => rw [hj] at hu; simp at hu
  | some u0 =>
    rw [hj] at hu
    simp only [Option.map_some, Option.some.injEq, Nat.add_zero] at hu
    by_cases hin : o ≤ j ∧ j < o + vs.length
    · rw [if_pos hin] at hu
      have hjv : j - o < vs.length := by omega
      have hu' : vs[j - o]? = some u := by rw [← hu]; simp [List.getD, List.getElem?_eq_getElem hjv]
      have := hx.2 (j - o) u hu'
      refine ⟨this.1, fun y hy => this.2 y ?_⟩
      have h3 := setAll_in cs o xs (j - o) (by rw [← hx.1]; exact hjv) hle
      rw [show o + (j - o) = j by omega, hy] at h3
      exact h3.symm
    · rw [if_neg hin] at hu
      subst hu
      have := hc.2 j u0 hj
      refine ⟨this.1, fun y hy => this.2 y ?_⟩
      rw [setAll_out cs o xs j (by rw [← hx.1]; omega)] at hy
      exact hy

/-- 'fill' of the machine and 'fillV'. -/
theorem fill_spec {place : Nat → Option (Nat × Nat)} : ∀ {ps : List (Nat × Value)} {qs : List (Nat × Nat × V)} {cs zs : List V} {us : Array Value}, ps.length = qs.length →
    (∀ (j : Nat) p q, ps[j]? = some p → qs[j]? = some q → place p.1 = some (q.1, q.2.1) ∧ VR E q.2.2 p.2) → Vals E cs us.toList → fillV cs qs = some zs →
    ∃ ws : Array Value, Instr.fill place us ps = some ws ∧ Vals E zs ws.toList
  | [], [], cs, zs, us, _, _, hc, hf => by
    simp [fillV] at hf; subst hf
    exact ⟨us, rfl, hc⟩
  | p :: r, q :: s, cs, zs, us, hl, hp, hc, hf => by
    simp only [fillV] at hf
    split at hf
    · rename_i hq
      obtain ⟨h1, h2⟩ := hp 0 p q rfl rfl
      have hv := h2.vals hq.2.2
      have hsz : p.2.cells.size = q.2.1 := by rw [h2.cells.1]; exact hq.1
      have hus : us.size = cs.length := by simpa using hc.1
      have hset := vals_setAll hc hv (by rw [hq.1]; exact hq.2.1)
      have hfold : ∀ (l : List (Value × Nat)) (us : Array Value), (l.foldl (fun cs (c : Value × Nat) => cs.setIfInBounds (q.1 + c.2) c.1) us).toList = l.foldl (fun (a : List Value) (c : Value × Nat) => a.set (q.1 + c.2) c.1) us.toList := by
        intro l
        induction l with
        | nil => intro us; rfl
        | cons y l ih => intro us; simp only [List.foldl_cons, ih, Array.toList_setIfInBounds]
      have hnext : Vals E (setAll cs q.1 q.2.2.cells) (p.2.cells.zipIdx.foldl (fun cs (c : Value × Nat) => cs.setIfInBounds (q.1 + c.2) c.1) us).toList := by
        rw [← Array.foldl_toList, hfold]
        simpa using hset
      obtain ⟨ws, hws, hvs⟩ := fill_spec (place := place) (by simpa using hl) (fun j p' q' hp' hq' => hp (j + 1) p' q' (by simpa using hp') (by simpa using hq')) hnext hf
      refine ⟨ws, ?_, hvs⟩
      obtain ⟨p1, p2⟩ := p
      simp only at h1 hsz
      simp only [Instr.fill, h1]
      rw [if_neg (by
        simp only [hsz, ne_eq, not_true_eq_false, decide_false, Bool.false_or, decide_eq_true_eq]
        have hq21 := hq.2.1
        have e1 : q.snd.fst = q.2.1 := rfl
        rw [← hus] at hq21
        exact Nat.not_lt.2 hq21)]
      exact hws
    · cases hf
  | [], _ :: _, _, _, _, hl, _, _, _ => by simp at hl
  | _ :: _, [], _, _, _, hl, _, _, _ => by simp at hl

/-- The places of a struct's fields. -/
def places (P : Program) : List Field → Option (List (Nat × Nat))
  | [] => some []
  | f :: r => match tSize P f.type, places P r with
    | some n, some l => some ((f.offset, n) :: l)
    | _, _ => none

theorem run_placesV {P : Program} (w : World) : ∀ {fs : List Field} {l : List (Nat × Nat)}, places P fs = some l →
    (fs.mapM fun (f : Field) => (do pure (f.offset, ← sizeOf f.type) : Sem (Nat × Nat))).run P w = .ok l w
  | [], l, h => by simp [places] at h; subst h; simp
  | f :: r, l, h => by
    simp only [places] at h
    split at h
    · rename_i n m hn hm
      cases h
      simp only [List.mapM_cons, Sem.run_bind, run_size hn, Result.andThen_ok, Sem.run_pure, run_placesV w hm]
    · cases h

theorem does_build_struct {t : TypeId} {z : Value} {fs : Array Field} {l : List (Nat × Nat)} {zs cs : List V} {ps : List (Nat × Value)} {qs : List (Nat × Nat × V)} (H : SR w0 E h w)
    (hz : tZero x.P t = some z) (hu : x.P.underlying t = some (.struct fs)) (hp : places x.P fs.toList = some l) (hc : ckVs z.cells.toList zs = true) (hl : ps.length = qs.length)
    (hq : ∀ (j : Nat) p q, ps[j]? = some p → qs[j]? = some q → l[p.1]? = some (q.1, q.2.1) ∧ VR E q.2.2 p.2) (hf : fillV zs qs = some cs) :
    Does x w0 E w ((do pure (.value (← Instr.build t ps.toArray)) : Sem Next).run x.P w) (some (.val (.agg cs) h)) := by
  obtain ⟨ws, h1, h2⟩ := fill_spec (place := fun i => l.toArray[i]?) hl (fun j p q hp hq' => by simpa using hq j p q hp hq') (ckVs_spec hc) hf
  refine Does.same (u := .agg ws) H ?_ (by simpa using h2.agg)
  have h1' : Instr.fill (fun i => l[i]?) z.cells ps = some ws := by simpa using h1
  have hm := run_placesV (P := x.P) w hp
  simp only [Instr.build, Sem.run_bind, run_zero hz, Result.andThen_ok, run_underlying hu, Array.mapM_eq_mapM_toList, Sem.run_map, hm]
  simp [h1']

theorem does_build_array {t e : TypeId} {z : Value} {k n : Nat} {zs cs : List V} {ps : List (Nat × Value)} {qs : List (Nat × Nat × V)} (H : SR w0 E h w)
    (hz : tZero x.P t = some z) (hu : x.P.underlying t = some (.array k e)) (hs : tSize x.P e = some n) (hc : ckVs z.cells.toList zs = true) (hl : ps.length = qs.length)
    (hq : ∀ (j : Nat) p q, ps[j]? = some p → qs[j]? = some q → (q.1 = p.1 * n ∧ q.2.1 = n) ∧ VR E q.2.2 p.2) (hf : fillV zs qs = some cs) :
    Does x w0 E w ((do pure (.value (← Instr.build t ps.toArray)) : Sem Next).run x.P w) (some (.val (.agg cs) h)) := by
  obtain ⟨ws, h1, h2⟩ := fill_spec (place := fun i => some (i * n, n)) hl (fun j p q hp hq' => ⟨by rw [(hq j p q hp hq').1.1, (hq j p q hp hq').1.2], (hq j p q hp hq').2⟩) (ckVs_spec hc) hf
  refine Does.same (u := .agg ws) H ?_ (by simpa using h2.agg)
  simp only [Instr.build, Sem.run_bind, run_zero hz, Result.andThen_ok, run_underlying hu, run_size hs]
  simp [h1]

/-- The zero cells of a slice that is built. -/
def zerosOf (z : List V) (n : Nat) : List V := (List.range n).map fun i => z.getD (i % z.length) .nptr

theorem does_mks {t e : TypeId} {z : Value} {es n : Nat} {ag fz : Bool} {zs cs : List V} {ps : List (Nat × Value)} {qs : List (Nat × Nat × V)} (H : SR w0 E h w)
    (hz : n * es = 0 ∨ tZero x.P e = some z) (hu : x.P.underlying t = some (.slice e)) (hs : tSize x.P e = some es) (hag : ag = false → es = 1) (hlim : n * es ≤ 2 ^ 24)
    (hc : Vals E zs (if n * es = 0 then [] else ((List.range (n * es)).map fun i => z.cells.toList.getD (i % z.cells.size) default))) (hl : ps.length = qs.length)
    (hq : ∀ (j : Nat) p q, ps[j]? = some p → qs[j]? = some q → (q.1 = p.1 * es ∧ q.2.1 = es) ∧ VR E q.2.2 p.2) (hf : fillV zs qs = some cs) (hcl : cs.length = n * es) :
    Does x w0 E w ((do pure (.value (← Instr.buildSlice t n ps.toArray)) : Sem Next).run x.P w)
      (some (if fz then .val (.lst true (chunk es ag n cs)) h else .val (.sl h.length 0 n n true es ag) (h ++ [some (.cells cs)]))) := by
  have hbase : ∃ us : Array Value, us.toList = (if n * es = 0 then [] else ((List.range (n * es)).map fun i => z.cells.toList.getD (i % z.cells.size) default)) ∧
      (do let zero ← (if n * es = 0 then pure #[] else do pure (← zeroValue e).cells : Sem (Array Value)); pure ((Array.range (n * es)).map (zero[· % zero.size]!)) : Sem (Array Value)).run x.P w = .ok us w := by
    by_cases h0 : n * es = 0
    · exact ⟨#[], by simp [h0], by simp [h0]⟩
    · refine ⟨(Array.range (n * es)).map (fun i => z.cells[i % z.cells.size]!), ?_, ?_⟩
      · simp [h0]
        intro i _
        rw [getElem!_def]
        cases z.cells[i % z.cells.size]? <;> rfl
      · rcases hz with hz | hz
        · exact absurd hz h0
        · simp [h0, run_zero hz]
  obtain ⟨us, hus, hrun⟩ := hbase
  rw [← hus] at hc
  obtain ⟨ws, h1, h2⟩ := fill_spec (place := fun i => some (i * es, es)) hl (fun j p q hp hq' => ⟨by rw [(hq j p q hp hq').1.1, (hq j p q hp hq').1.2], (hq j p q hp hq').2⟩) hc hf
  have hr : ((do pure (.value (← Instr.buildSlice t n ps.toArray)) : Sem Next)).run x.P w = .ok (.value (.slice (some ⟨w.heap.size, 0, none⟩) n n)) (w.alloc (.cells ws e)) := by
    by_cases h0 : n * es = 0
    · simp only [h0, if_true] at hrun
      simp only [Instr.buildSlice, Sem.run_bind, run_underlying hu, run_size hs, Result.andThen_ok, h0, if_true]
      have : us = #[] := by simpa [h0] using hus
      subst this
      have e0 : (Array.map (fun (_ : Nat) => (default : Value)) (Array.range 0)) = #[] := by simp
      simp [e0, h1, newRow]
    · rcases hz with hz | hz
      · exact absurd hz h0
      simp only [h0, if_false] at hrun
      simp only [Sem.run_bind, run_zero hz, Result.andThen_ok, Sem.run_pure, Result.ok.injEq, and_true] at hrun
      simp only [Instr.buildSlice, Sem.run_bind, run_underlying hu, run_size hs, Result.andThen_ok, h0, if_false, Sem.run_ite]
      rw [if_neg (by omega)]
      simp [run_zero hz, hrun, h1, newRow]
  rw [hr]
  have hws : ws.size = n * es := by have := h2.1; simp at this; omega
  cases fz with
  | true =>
    refine ⟨_, E.ice w.heap.size ws, _, Le.ice H ws, rfl, ?_, H.newFrz (Made.alloc w ws e)⟩
    exact VR.lst_of (b := w.heap.size) (p := 0) hcl hag (h2.mono (Le.ice H ws)) (fun j u hu => by simpa [Env.ice] using hu) (Nat.le_refl _) (fun _ => rfl) _ (fun _ => rfl)
  | false =>
    refine ⟨_, E.add (newLoc w ws.size), _, Le.add _ _, rfl, VR.newSl H n n n ws.size true es ag (Nat.le_refl _) (Nat.le_refl _) (fun _ => rfl) (by omega), ?_⟩
    exact H.newCells (Made.alloc w ws e) h2 (fun j u hu => by simpa using hu)
end
end Go.Vs
