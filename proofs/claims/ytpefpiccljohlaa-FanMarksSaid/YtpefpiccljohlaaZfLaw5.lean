/- The laws on groups and on what is taken, over plain data (5): FanOnce. -/
import Derived.Test.YtpefpiccljohlaaZfLaw4
namespace Go.Proofs.Ytpefpiccljohlaa
open Go.Vs Go.RowKit
set_option linter.unusedSimpArgs false
set_option linter.unusedVariables false
attribute [local simp] unV extV wanted strBin

/-- The last hundred. -/
def lastC (R : List Mk) : List Mk := R.drop (R.length - 100)
theorem lastC_length (R : List Mk) : (lastC R).length = R.length - (R.length - 100) := by simp [lastC]
theorem lastC_snoc (R : List Mk) (m : Mk) : (lastC R ++ [m]).drop ((lastC R).length + 1 - 100) = lastC (R ++ [m]) := by
  have e : lastC R ++ [m] = (R ++ [m]).drop (R.length - 100) := by
    unfold lastC
    rw [List.drop_append_of_le_length (by omega)]
  rw [e, List.drop_drop, lastC_length]
  unfold lastC
  rw [List.length_append, List.length_singleton]
  have : R.length - 100 + (R.length - (R.length - 100) + 1 - 100) = R.length + 1 - 100 := by omega
  rw [this]

def onceInv (l : V) (ms : List Mk) (k : Nat) (st : St) : Prop :=
  ∃ (i : Nat) (R : List Mk) (sv rv : V), k + i = ms.length ∧ R.length ≤ i ∧ st.t 3 = sv ∧ Fz 2 sv (lastC R).length (mks (lastC R)) ∧ st.t 4 = rv ∧ Own st.h 0 2 true rv R.length (mks R) ∧
    st.t 21 = l ∧ st.t 22 = .int .i64 ms.length ∧ st.t 23 = .int .i64 i ∧ st.d = []

def onceInv2 (l : V) (ms : List Mk) (i β : Nat) (pi : Mk) (pay : List UInt8) (h1 : Hp) (sv rv wv : V) (SL : List Mk) (k : Nat) (st : St) : Prop :=
  ∃ j : Nat, k + j = SL.length ∧ st.t 3 = sv ∧ st.t 4 = rv ∧ st.t 6 = .ptr β 0 ∧ st.t 7 = .str pay ∧ st.t 9 = .bool (decide (pi ∈ SL.take j)) ∧ st.t 21 = l ∧ st.t 22 = .int .i64 ms.length ∧ st.t 23 = .int .i64 i ∧
    st.t 44 = wv ∧ st.t 45 = .int .i64 SL.length ∧ st.t 46 = .int .i64 j ∧ Frm h1.length h1 st.h ∧ st.d = []

theorem Sl.frm {h h' : Hp} {es : Nat} {s : V} {n : Nat} {ys : List V} (H : Sl h es s n ys) (hf : Frm h.length h h') : Sl h' es s n ys := Sl.keep H fun b hb => hget_frm hf hb

set_option maxHeartbeats 8000000 in
/-- FanOnce: whatever the marks, true. -/
theorem fanOnce_law {l : V} {ms : List Mk} (H : Fz 2 l ms.length (mks ms)) (hn : ms.length < 9223372036854775808) (hids : ∀ m ∈ ms, m.2 < 18446744073709551616) : PCalls FX 5 [l] Yes := by
  refine PCalls.of ?_ (fun r hr => by subst hr; exact .bool _)
  refine acall FX.ok ck5 rfl ?_
  simp [F5]
  refine (aliveP _).mono ?_
  rintro r h ⟨rfl, rfl⟩
  have hl := fun x => (H x).len
  simp [hl]
  by_cases h200 : (200 : Int) < ms.length
  · simp [h200]
  · simp [h200, hl]
    refine vc_loop _ _ _ (onceInv l ms) ms.length ⟨0, [], .nsl, .nsl, by simp, by simp, by simp, Fz.nil2, by simp, ⟨rfl, .inl ⟨rfl, rfl⟩⟩, by simp, by simp, by simp, rfl⟩ ?_
    rintro k ⟨t, h', d⟩ ⟨i, R, sv, rv, hk, hR, h3, hsv, h4, ho, h21, h22, h23, hd⟩
    simp only at h3 h4 ho h21 h22 h23 hd
    subst hd
    by_cases hi : i < ms.length
    · obtain ⟨q, hq1, hq2⟩ := (H h').at (k := .i64) hi
      have hpi : ms[i]? = some (ms[i]'hi) := List.getElem?_eq_getElem _
      have hid := hids (ms[i]'hi) (List.getElem_mem hi)
      generalize ms[i]'hi = pi at hpi hid
      rw [mks_at hpi] at hq2
      have hnew : hget (h' ++ [some (Blk.cells (mkC pi) none)]) h'.length = some (Blk.cells (mkC pi) none) := hget_new _ _
      obtain ⟨r1, r2, r3⟩ := rd_mk hnew
      have hw : IntKind.i64.wrap ((i : Int) + 1) = (i : Int) + 1 := by rw [wrap64 (by omega) (by omega)]
      have hst := st_mk h' pi
      have hf1 : Frm h'.length h' (h' ++ [some (Blk.cells (mkC pi) none)]) := Frm.append (Nat.le_refl _) _
      have ho1 := Own.frm ho hf1
      simp [h21, h22, h23, hi, hq1, hq2, asV, hst, fadV, r2]
      generalize hβ : h'.length = β at *
      have hβ1 : β < (h' ++ [some (Blk.cells (mkC pi) none)]).length := by simp [hβ]
      generalize h' ++ [some (Blk.cells (mkC pi) none)] = h1 at *
      by_cases h500 : (500 : Int) < pi.1.length
      · simp [h500, h23, hw]
        exact ⟨k - 1, by omega, i + 1, R, sv, rv, by omega, by omega, by simp [h3], hsv, by simp [h4], ho1, by simp [h21], by simp [h22], by simp, rfl⟩
      · simp [h500, fadV, r3, asV]
        refine (payP hid _).mono ?_
        rintro r h2 ⟨rfl, rfl⟩
        rw [joinR_pay hid (by simp)]
        have hrl := ho1.sl.len
        have hw1 : IntKind.i64.wrap ((R.length : Int) - 100) = (R.length : Int) - 100 := by rw [wrap64 (by omega) (by omega)]
        have hmx : maxV h2 (.int .i64 0) (.int .i64 ((R.length : Int) - 100)) = some (.val (.int .i64 ((R.length - 100 : Nat) : Int)) h2) := by
          simp only [maxV, if_true]
          split <;> (congr 3; omega)
        obtain ⟨wv, e1, e2⟩ := Sl.drop ho1.sl (i := R.length - 100) (by omega)
        rw [mks_drop, ← lastC_length] at e2
        have e2' : Sl h2 2 wv (lastC R).length (mks (lastC R)) := e2
        have hwl := e2'.len
        simp [h4, hrl, hw1, hmx, ho1.sl.2.1, e1, hwl]
        refine vc_loop _ _ _ (onceInv2 l ms i β pi (joinB 70 [numB pi.2, [116, 101, 120, 116]]) h2 sv rv wv (lastC R)) (lastC R).length ⟨0, by simp, by simp [h3], by simp [h4], by simp, by simp, by simp, by simp [h21], by simp [h22], by simp [h23], by simp, by simp, by simp, Frm.refl (Nat.le_refl _), rfl⟩ ?_
        rintro k' ⟨t, h3', d⟩ ⟨j, hk', h3, h4, h6, h7, h9, h21, h22, h23, h44, h45, h46, hf, hd⟩
        simp only at h3 h4 h6 h7 h9 h21 h22 h23 h44 h45 h46 hf hd
        subst hd
        have hLl := lastC_length R
        by_cases hj : j < (lastC R).length
        · obtain ⟨q, hq1, hq2⟩ := (Sl.frm e2' hf).at (k := .i64) hj
          have hpj : (lastC R)[j]? = some ((lastC R)[j]'hj) := List.getElem?_eq_getElem _
          generalize (lastC R)[j]'hj = pj at hpj
          rw [mks_at hpj] at hq2
          have hst := st_mk h3' pj
          obtain ⟨s1, _, _⟩ := rd_mk (hget_new h3' (some (Blk.cells (mkC pj) none)))
          have hhold : hget (h3' ++ [some (Blk.cells (mkC pj) none)]) β = some (.cells (mkC pi) none) := by
            rw [hget_old (by have := hf.1; omega), hget_frm hf hβ1]; exact hnew
          obtain ⟨s2, _, _⟩ := rd_mk hhold
          have hwj : IntKind.i64.wrap ((j : Int) + 1) = (j : Int) + 1 := by rw [wrap64 (by omega) (by omega)]
          have hf2 : Frm h2.length h2 (h3' ++ [some (Blk.cells (mkC pj) none)]) := hf.trans (Frm.append hf.1 _)
          have hjb : (j : Int) < ((lastC R).length : Int) := by omega
          by_cases hmem : pi ∈ (lastC R).take j
          · simp [h44, h45, h46, hj, hjb, hq1, hq2, asV, hst, h9, hmem, hwj]
            exact ⟨k' - 1, by omega, j + 1, by omega, by simp [h3], by simp [h4], by simp [h6], by simp [h7], by simp [mem_take_succ hpj, hmem], by simp [h21], by simp [h22], by simp [h23], by simp [h44], by simp [h45], by simp, hf2, rfl⟩
          · simp [h44, h45, h46, hj, hjb, hq1, hq2, asV, hst, h9, hmem, hwj, s1, s2, h6, veq_mk]
            exact ⟨k' - 1, by omega, j + 1, by omega, by simp [h3], by simp [h4], by simp [h6], by simp [h7], by simp [mem_take_succ hpj, hmem], by simp [h21], by simp [h22], by simp [h23], by simp [h44], by simp [h45], by simp, hf2, rfl⟩
        · have hjl : j = (lastC R).length := by omega
          subst hjl
          rw [List.take_length] at h9
          have hb : hget h3' β = some (.cells (mkC pi) none) := by rw [hget_frm hf hβ1]; exact hnew
          obtain ⟨q1, q2, q3⟩ := rd_mk hb
          have ho3 := Own.frm ho1 hf
          have hpl := joinB_pay_len (n := pi.2) (s := [116, 101, 120, 116]) hid
          simp only [List.length_cons, List.length_nil] at hpl
          have htf := takeF_pay (ms := lastC R) (fr := pi.1) (n := pi.2) (s := [116, 101, 120, 116]) hid (by simp)
          have hmk : (pi.1, pi.2) = pi := rfl
          rw [hmk] at htf
          simp [h44, h45, h46, h3, h6, h7, fadV, q2, asV]
          refine (takeP hsv (by omega) (by omega) _).mono ?_
          rintro r h5 ⟨⟨v2, rfl, hv2⟩, rfl⟩
          rw [htf] at hv2 ⊢
          by_cases hm : pi ∈ lastC R
          · simp [hm] at hv2
            simp [h9, hm, veq, h23, hw]
            exact ⟨k - 1, by omega, i + 1, R, v2, rv, by omega, by omega, by simp, hv2, by simp [h4], ho3, by simp [h21], by simp [h22], by simp, rfl⟩
          · simp [hm] at hv2
            obtain ⟨v', h6', a1, a2, a3, a4, a5, a6⟩ := Own.app (h := h5) (k := 0) (es := 2) (bt := 24) (ag := true) (ty := none) (a := .lst true [mkV pi]) (m := 1) (zs := mkC pi) (Nat.zero_le _) ho3 (by simp [src, flat, V.cells, mkV, mkC]) rfl (by unfold room; omega)
            have hfill : fillV [.str [], .int .u64 0] [(0, 2, .agg (mkC pi))] = some (mkC pi) := by simp [fillV, V.cells, mkC, V.one, setAll]
            have hch : chunk 2 true 1 (mkC pi) = [mkV pi] := rfl
            simp [h9, hm, veq, h6, fadV, q1, q3, asV, h4, hfill, hch, a1, h23, hw]
            have hs' := lastC_snoc R pi
            refine ⟨k - 1, by omega, i + 1, R ++ [pi], v2, v', by omega, by simp; omega, by simp, ?_, by simp, ?_, by simp [h21], by simp [h22], by simp, rfl⟩
            · rw [← hs']; simpa using hv2
            · rw [mks_append]; simpa [mks] using a2
    · have hi' : i = ms.length := by omega
      subst hi'
      have hsl := (hsv h').len
      have hrl := ho.sl.len
      have hmi : minV h' (.int .i64 (R.length : Int)) (.int .i64 100) = some (.val (.int .i64 ((lastC R).length : Int)) h') := by
        rw [lastC_length]
        simp only [minV, if_true]
        split <;> (congr 3; omega)
      simp [h21, h22, h23, h3, h4, hsl, hrl, aop_min, hmi]

end Go.Proofs.Ytpefpiccljohlaa
