/- What the reference of package fan takes. -/
import Derived.Test.YtpefpiccljohlaaZfTake
namespace Go.Proofs.Ytpefpiccljohlaa
open Go.Vs Go.RowKit
set_option linter.unusedSimpArgs false
set_option linter.unusedVariables false

theorem Sl.ice {h : Hp} {es : Nat} {v : V} {n : Nat} {ys : List V} (H : Sl h es v n ys) (hag : ∀ b off len cap ex es' ag, v = .sl b off len cap ex es' ag → ag = false → es = 1) (h1 : ∀ y ∈ ys, y.one = true) (hlow : ∀ y ∈ ys, Low 0 y) : ∃ v', Ice h 0 v v' ∧ Fz es v' n ys := by
  rcases H.shape with ⟨rfl, rfl, rfl⟩ | ⟨b, off, cap, ex, ag, cs, ty, rfl, hg, hs, hc⟩ | ⟨ex, xs, rfl, rfl, rfl, hx⟩
  · exact ⟨_, .low _ .nsl, fun h => ⟨rfl, rfl, trivial⟩⟩
  · refine ⟨.lst false (chunk es ag n ys), .sl b off n cap ex es ag cs ty ys ys (Nat.zero_le _) hg hs (hag _ _ _ _ _ _ _ rfl) rfl (fun j x y hx hy => ?_) h1, fun h => flat_chunk (sub_len hs) (hag _ _ _ _ _ _ _ rfl) h1 h⟩
    rw [hx] at hy; cases hy
    exact .low _ (hlow _ (List.mem_of_getElem? hx))
  · exact ⟨_, .low _ (.lst _ _ hlow), fun h => ⟨by simp only [src]; rw [if_pos hx], rfl, trivial⟩⟩

theorem Sl.drop {h : Hp} {es : Nat} {v : V} {n : Nat} {ys : List V} (H : Sl h es v n ys) {i : Nat} (hi : i ≤ n) : ∃ v', slcV es v i none none = some v' ∧ Sl h es v' (n - i) (ys.drop (i * es)) := by
  rcases H.shape with ⟨rfl, rfl, rfl⟩ | ⟨b, off, cap, ex, ag, cs, ty, rfl, hg, hs, hc⟩ | ⟨ex, xs, rfl, rfl, rfl, hx⟩
  · have : i = 0 := by omega
    subst this
    exact ⟨.nsl, rfl, by simp [src], rfl, trivial⟩
  · refine ⟨_, by simp only [slcV, Option.getD_none]; rw [if_pos ⟨trivial, hi, hc⟩], ?_, rfl, ?_⟩
    · simp only [src, if_true, rd, hg]
      have hle : i * es ≤ n * es := Nat.mul_le_mul_right _ hi
      obtain ⟨e1, e2, e3⟩ := sub_spec hs
      have : sub cs (off + i * es) ((n - i) * es) = some (ys.drop (i * es)) := by
        unfold sub at hs ⊢
        rw [Nat.sub_mul]
        rw [if_pos e1] at hs
        rw [if_pos (by omega), ← Option.some.inj hs, List.drop_take, List.drop_drop]
      rw [this]; rfl
    · show n - i ≤ cap - i
      omega
  · have e : (flat xs).drop (i * es) = flat (xs.drop i) := by
      have hf := flat_length hx
      have h1 : flat xs = flat (xs.take i) ++ flat (xs.drop i) := by unfold flat; rw [← List.flatMap_append, List.take_append_drop]
      have h2 := flat_length (xs := xs.take i) (es := es) fun y hy => hx y (List.mem_of_mem_take hy)
      rw [List.length_take, Nat.min_eq_left hi] at h2
      rw [h1, ← h2, List.drop_left']; rfl
    refine ⟨.lst (ex && xs.length == xs.length) (xs.drop i), by simp only [slcV, Option.getD_none]; rw [if_pos ⟨hi, Nat.le_refl _, hx⟩]; rfl, ?_, rfl, trivial⟩
    simp only [src]
    rw [if_pos fun y hy => hx y (List.mem_of_mem_drop hy), e, List.length_drop]

theorem TakeM.of0 {x : X} {f : FuncId} {args : List V} {y : List Mk × Nat × List UInt8 × Int}
    (H : ACalls x f args [] fun r h' => ∃ v, r = .ret (.tup [v, .int .u64 y.2.1, .str y.2.2.1, .int .i64 y.2.2.2]) ∧ ∃ v', Ice h' 0 v v' ∧ Fz 2 v' y.1.length (mks y.1)) :
    PCalls x f args (TakeM y) := by
  refine H.ice fun r h' ⟨v, hr, v', h1, h2⟩ => ⟨Nat.zero_le _, LowH.zero _, ?_⟩
  subst hr
  exact ⟨.ret _, Ice.tup4 h1 (.low _ (.int _ _)) (.low _ (.str _)) (.low _ (.int _ _)), ⟨v', rfl, h2⟩, by simp⟩

def refTakeInv (s : V) (ms : List Mk) (p : Mk) (b : List UInt8) (l : V) (m : Nat) (st : St) : Prop :=
  ∃ i : Nat, m + i = ms.length ∧ st.t 0 = s ∧ st.t 11 = l ∧ st.t 13 = .int .u64 p.2 ∧ st.t 15 = .ptr 0 0 ∧ st.t 16 = .int .i64 i ∧ st.h = [some (.cells (mkC p) none)] ∧ st.d = [] ∧ ∀ j, j < i → ms[j]? ≠ some p

set_option maxHeartbeats 4000000 in
theorem refTake_spec {s : V} {ms : List Mk} {fr pl : List UInt8} (H : Fz 2 s ms.length (mks ms)) (hn : ms.length < 2 ^ 40) (hp : pl.length < 2 ^ 40) :
    PCalls FX 17 [s, .str fr, .str pl] (TakeM (takeF ms fr pl)) := by
  refine TakeM.of0 ?_
  refine acall FX.ok ck17 rfl ?_
  have hsl : Low 0 s := H.low mks_low
  have hice : ∀ h, ∃ v', Ice h 0 s v' ∧ Fz 2 v' ms.length (mks ms) := fun h => ⟨s, .low _ hsl, H⟩
  simp [F17]
  refine (refSplit_spec (h := []) (by omega) (LowH.zero _)).mono ?_
  rintro r h1 ⟨rfl, rfl⟩
  unfold splitV takeF takeB
  cases hb : readB pl with
  | none =>
    simp [extV, wanted, Ice, hice]
  | some x =>
    obtain ⟨k', l⟩ := x
    have hl := (frz_fz l []).len
    by_cases hk : k'.toNat = 70
    · by_cases hln : l.length = 2
      · obtain ⟨a, b, rfl, hal, hbl⟩ := takeB_two (s := pl) (k := 70) (l := l) (by unfold takeB; rw [hb]; simp [hk, hln])
        have hfz : frz [a, b] = .lst false [.str a, .str b] := rfl
        rw [hfz] at hl
        simp [extV, wanted, hk, hl, hfz, iadV, V.cells, rd, sub, asV]
        refine (refReadNum_spec (by omega)).mono ?_
        rintro r h3 ⟨rfl, rfl⟩
        unfold readV
        cases hr : readN a with
        | none => simp [extV, hice]
        | some id =>
          have hst : stV [some (.cells [.str [], .int .u64 0] none)] 2 (.ptr 0 0) (mkV (fr, id)) = some (.skip [some (.cells (mkC (fr, id)) none)]) := rfl
          have hfi : fillV [V.str [], V.int .u64 0] [(0, 1, V.str fr), (1, 1, V.int .u64 id)] = some (mkC (fr, id)) := by simp [fillV, V.cells, V.one, setAll, mkC]
          have hag : V.agg (mkC (fr, id)) = mkV (fr, id) := rfl
          simp [extV, hfi, hag, hst]
          refine vc_loop _ _ _ (refTakeInv s ms (fr, id) b (.lst false [.str a, .str b])) ms.length ⟨0, by simp, by simp, by simp, by simp, by simp, by simp, rfl, rfl, by simp⟩ ?_
          rintro m ⟨t, h', d⟩ ⟨i, hm, h0, h11, h13, h15, h16, hh, hd, hnone⟩
          simp only at h0 h11 h13 h15 h16 hh hd
          subst hh; subst hd
          have hsl := (H [some (.cells (mkC (fr, id)) none)]).len
          have hrd : rd [some (.cells (mkC (fr, id)) none)] (.ptr 0 0) 2 = some (mkC (fr, id)) := rfl
          by_cases hi : i < ms.length
          · obtain ⟨q, hq1, hq2⟩ := (H [some (.cells (mkC (fr, id)) none)]).at (k := .i64) hi
            have hpi : ms[i]? = some (ms[i]'hi) := List.getElem?_eq_getElem _
            generalize ms[i]'hi = pi at hpi
            rw [mks_at hpi] at hq2
            simp [h0, h11, h13, h15, h16, hsl, hi, hq1, hq2, hrd, asV, veq_mk]
            by_cases hp : pi = (fr, id)
            · subst hp
              have := List.mem_of_getElem? hpi
              simp [h0, this, hice]
            · simp [hp, h16]
              refine ⟨m - 1, by omega, i + 1, by omega, by simp [h0], by simp [h11], by simp [h13], by simp [h15], ?_, rfl, rfl, fun j hj => ?_⟩
              · simp [wrap64 (n := (i : Int) + 1) (by omega) (by omega)]
              · by_cases hji : j = i
                · subst hji; rw [hpi]; intro e; cases e; exact hp rfl
                · exact hnone j (by omega)
          · have hnm : (fr, id) ∉ ms := by
              intro hm
              obtain ⟨j, hj, he⟩ := List.getElem_of_mem hm
              exact hnone j (by omega) (by rw [List.getElem?_eq_getElem hj, he])
            have hi' : i = ms.length := by omega
            obtain ⟨v1, g1, b1, b2, b3, b4, b5, b6⟩ := Own.app (h := [some (.cells (mkC (fr, id)) none)]) (k := 0) (es := 2) (bt := 24) (ag := true) (ty := none) (v := .lst true []) (a := s) (n := 0) (m := ms.length) (ys := []) (zs := mks ms) (Nat.zero_le _) ⟨rfl, .inr (.inl ⟨rfl, rfl⟩)⟩ (H _).1 (mks_length ms) (by unfold room; omega)
            have hg1 : hget g1 0 = some (.cells (mkC (fr, id)) none) := by rw [b4 0 (by simp) (by simp [V.blk])]; rfl
            have hrd1 : rd g1 (.ptr 0 0) 2 = some (mkC (fr, id)) := by simp only [rd, hg1]; rfl
            obtain ⟨v2, g2, c1, c2, c3, c4, c5, c6⟩ := Own.app (h := g1) (k := 0) (es := 2) (bt := 24) (ag := true) (ty := none) (a := .lst true [mkV (fr, id)]) (m := 1) (zs := mkC (fr, id)) (Nat.zero_le _) b2 (by simp [src, flat, V.cells, mkV, mkC]) rfl (by unfold room; omega)
            have hfi2 : fillV [V.str [], V.int .u64 0] [(0, 2, mkV (fr, id))] = some (mkC (fr, id)) := by simp [fillV, V.cells, V.one, setAll, mkC, mkV]
            have hch : chunk 2 true 1 (mkC (fr, id)) = [mkV (fr, id)] := rfl
            have hf0 : fillV [] [] = some [] := rfl
            have hc0 : chunk 2 true 0 [] = [] := rfl
            have c2' : Own g2 0 2 true v2 (ms.length + 1) (mks (ms ++ [(fr, id)])) := by rw [mks_append]; simpa [mks] using c2
            have hsl2 := c2'.sl
            simp [h0, h11, h13, h15, h16, hsl, hi, hrd, asV, hnm, hf0, hc0, b1, hrd1, hfi2, hag, hch, c1, hsl2.len]
            by_cases h100 : (100 : Int) < (ms.length : Int) + 1
            · have hw : IntKind.i64.wrap ((ms.length : Int) + 1 - 100) = ((ms.length + 1 - 100 : Nat) : Int) := by rw [wrap64 (by omega) (by omega)]; omega
              obtain ⟨v3, e3, s3⟩ := Sl.drop hsl2 (i := ms.length + 1 - 100) (by omega)
              have e3' : slcV 2 v2 (ms.length - 99) none none = some v3 := by simpa using e3
              simp [h100, hsl2.len, hw, hsl2.2.1, e3', h11, h13, iadV, V.cells, rd, sub, asV]
              obtain ⟨v4, i4, f4⟩ := Sl.ice s3 (fun _ _ _ _ _ _ ag e hag' => by
                obtain ⟨_, ⟨rfl, _⟩ | ⟨rfl, _⟩ | ⟨_, _, _, _, _, rfl, _⟩⟩ := c2'
                · simp [slcV] at e3; obtain ⟨_, e3⟩ := e3; subst e3; cases e
                · simp [slcV] at e3; obtain ⟨_, e3⟩ := e3; subst e3; cases e
                · simp [slcV] at e3; obtain ⟨_, e3⟩ := e3; subst e3; cases e; cases hag') (by rw [mks_drop]; exact mks_one) (by rw [mks_drop]; exact mks_low)
              exact ⟨v4, i4, by rw [mks_drop] at f4; simpa using f4⟩
            · have hz : ms.length - 99 = 0 := by omega
              simp [h100, h11, h13, iadV, V.cells, rd, sub, asV, hz]
              exact Own.ice c2' (fun h => by cases h) mks_one mks_low
      · have hln' : ((l.length : Int) != 2) = true := by simp; omega
        simp [extV, wanted, hk, hl, hln, hln', hice]
    · have hk' : ((k'.toNat : Int) != 70) = true := by simp; omega
      simp [extV, wanted, hk, hk', hice]

end Go.Proofs.Ytpefpiccljohlaa
