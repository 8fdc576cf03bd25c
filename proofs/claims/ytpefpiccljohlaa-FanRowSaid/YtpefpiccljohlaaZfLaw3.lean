/- The laws on groups and on what is taken, over plain data (3): FanMarks. -/
import Derived.Test.YtpefpiccljohlaaZfLaw2
namespace Go.Proofs.Ytpefpiccljohlaa
open Go.Vs Go.RowKit
set_option linter.unusedSimpArgs false
set_option linter.unusedVariables false
attribute [local simp] unV extV wanted strBin

def minV (h : Hp) : V → V → Option Rz
  | .int k a, .int k' b => if k = k' then some (.val (.int k (if b < a then b else a)) h) else none
  | _, _ => none
theorem aop_min (x : X) (t : Nat → V) (h : Hp) (a b : O) : aop x t h (.min a b) = minV h (a.ev x t) (b.ev x t) := rfl

def marksInv (s : V) (ms : List Mk) (mk : Mk) (text pay : List UInt8) (k : Nat) (st : St) : Prop :=
  ∃ i, k + i = ms.length ∧ st.t 0 = s ∧ st.t 2 = .str text ∧ st.t 4 = .ptr 0 0 ∧ st.t 7 = .str pay ∧ st.t 9 = .bool (decide (mk ∈ ms.take i)) ∧ st.t 41 = s ∧ st.t 42 = .int .i64 ms.length ∧ st.t 43 = .int .i64 i ∧
    hget st.h 0 = some (.cells (mkC mk) none) ∧ st.d = []

theorem rd_mk {h : Hp} {b : Nat} {m : Mk} (hg : hget h b = some (.cells (mkC m) none)) : rd h (.ptr b 0) 2 = some (mkC m) ∧ rd h (.ptr b 0) 1 = some [.str m.1] ∧ rd h (.ptr b 1) 1 = some [.int .u64 m.2] := by
  simp only [rd, hg]
  exact ⟨rfl, rfl, rfl⟩

theorem st_mk (h : Hp) (m : Mk) : stV (h ++ [some (.cells [.str [], .int .u64 0] none)]) 2 (.ptr h.length 0) (.agg (mkC m)) = some (.skip (h ++ [some (.cells (mkC m) none)])) := by
  simp only [stV, V.cells, wr, hget_new]
  rw [if_pos ⟨rfl, by simp [mkC, V.one]⟩]
  simp [mkC, setAll]

theorem mem_take_succ {α : Type} {l : List α} {i : Nat} {a x : α} (h : l[i]? = some a) : x ∈ l.take (i + 1) ↔ x ∈ l.take i ∨ a = x := by
  rw [List.take_add_one, h]
  simp [eq_comm]

set_option maxHeartbeats 8000000 in
/-- FanMarks: whatever the marks and texts, true. -/
theorem fanMarks_law {s : V} {ms : List Mk} {mk : Mk} {text : List UInt8} (H : Fz 2 s ms.length (mks ms)) (hn : ms.length < 9223372036854775808) (hid : mk.2 < 18446744073709551616) : PCalls FX 7 [s, mkV mk, .str text] Yes := by
  refine PCalls.of ?_ (fun r hr => by subst hr; exact .bool _)
  refine acall FX.ok ck7 rfl ?_
  have hone : ∀ c ∈ mkC mk, c.one = true := by simp [mkC, V.one]
  have hcells : (mkV mk).cells = mkC mk := rfl
  simp [F7, hcells]
  rw [if_pos hone]
  have hg0 : hget [some (Blk.cells (mkC mk) none)] 0 = some (.cells (mkC mk) none) := rfl
  obtain ⟨r1, r2, r3⟩ := rd_mk hg0
  generalize [some (Blk.cells (mkC mk) none)] = g0 at *
  simp
  refine (aliveP _).mono ?_
  rintro r h ⟨rfl, rfl⟩
  have hl := fun x => (H x).len
  simp [hl]
  by_cases h200 : (200 : Int) < ms.length
  · have : ¬ (ms.length : Int) ≤ 200 := by omega
    simp [h200, this]
  · have h200' : (ms.length : Int) ≤ 200 := by omega
    by_cases h500 : (500 : Int) < mk.1.length
    · have h500' : ¬ (mk.1.length : Int) ≤ 500 := by omega
      simp [h200, h200', h500, h500', fadV, r2, asV]
    · have h500' : (mk.1.length : Int) ≤ 500 := by omega
      by_cases h5 : (500 : Int) < text.length
      · have h5' : ¬ (text.length : Int) ≤ 500 := by omega
        simp [h200, h200', h500, h500', h5, h5', fadV, r2, asV]
      · have h5' : (text.length : Int) ≤ 500 := by omega
        simp [h200, h200', h500, h500', h5, h5', fadV, r2, r3, asV]
        refine (payP hid _).mono ?_
        rintro r h' ⟨rfl, rfl⟩
        rw [joinR_pay hid (by omega)]
        simp [hl]
        refine vc_loop _ _ _ (marksInv s ms mk text (joinB 70 [numB mk.2, text])) ms.length ⟨0, by simp, by simp, by simp, by simp, by simp, by simp, by simp, by simp, by simp, hg0, rfl⟩ ?_
        rintro k ⟨t, h', d⟩ ⟨i, hk, h0, h2, h4, h7, h9, h41, h42, h43, hh, hd⟩
        simp only at h0 h2 h4 h7 h9 h41 h42 h43 hh hd
        subst hd
        by_cases hi : i < ms.length
        · obtain ⟨q, hq1, hq2⟩ := (H h').at (k := .i64) hi
          have hpi : ms[i]? = some (ms[i]'hi) := List.getElem?_eq_getElem _
          generalize ms[i]'hi = pi at hpi
          rw [mks_at hpi] at hq2
          have hnew := rd_mk (hget_new h' (some (.cells (mkC pi) none)))
          have hhold : hget (h' ++ [some (.cells (mkC pi) none)]) 0 = some (.cells (mkC mk) none) := by rw [hget_old (hget_lt hh)]; exact hh
          have hold := rd_mk hhold
          have hw : IntKind.i64.wrap ((i : Int) + 1) = (i : Int) + 1 := by rw [wrap64 (by omega) (by omega)]
          by_cases hmem : mk ∈ ms.take i
          · simp [h41, h42, h43, hi, hq1, hq2, asV, st_mk, h9, hmem, hw]
            exact ⟨k - 1, by omega, i + 1, by omega, by simp [h0], by simp [h2], by simp [h4], by simp [h7], by simp [mem_take_succ hpi, hmem], by simp [h41], by simp [h42], by simp, hhold, rfl⟩
          · simp [h41, h42, h43, hi, hq1, hq2, asV, st_mk, h9, hmem, hw, hnew.1, hold.1, h4, veq_mk]
            exact ⟨k - 1, by omega, i + 1, by omega, by simp [h0], by simp [h2], by simp [h4], by simp [h7], by simp [mem_take_succ hpi, hmem], by simp [h41], by simp [h42], by simp, hhold, rfl⟩
        · have hi' : i = ms.length := by omega
          subst hi'
          rw [List.take_length] at h9
          obtain ⟨q1, q2, q3⟩ := rd_mk hh
          have hpl := joinB_pay_len (n := mk.2) (s := text) hid
          have htf := takeF_pay (ms := ms) (fr := mk.1) (n := mk.2) (s := text) hid (by omega)
          have hmk : (mk.1, mk.2) = mk := rfl
          rw [hmk] at htf
          simp [h41, h42, h43, h0, h4, h7, fadV, q2, asV]
          have hlast : ((ms ++ [mk]).drop (ms.length + 1 - 100))[ms.length + 1 - (ms.length + 1 - 100) - 1]? = some mk := by
            rw [List.getElem?_drop, List.getElem?_append_right (by omega)]
            rw [show ms.length + 1 - 100 + (ms.length + 1 - (ms.length + 1 - 100) - 1) - ms.length = 0 by omega]
            rfl
          have hdl : ((ms ++ [mk]).drop (ms.length + 1 - 100)).length = ms.length + 1 - (ms.length + 1 - 100) := by simp
          have hdpos : 0 < ms.length + 1 - (ms.length + 1 - 100) := by omega
          have hmin : min (ms.length + 1) 100 = ms.length + 1 - (ms.length + 1 - 100) := by omega
          generalize hS : (ms ++ [mk]).drop (ms.length + 1 - 100) = S at *
          generalize ms.length + 1 - (ms.length + 1 - 100) = N at *
          refine ⟨?_, ?_⟩
          all_goals
            refine (theirsP H (by omega) _).mono ?_
            rintro r h1 ⟨⟨v1, rfl, hv1⟩, rfl⟩
            simp [h4, h7, fadV, q2, asV]
            refine (takeP hv1 (by omega) (by omega) _).mono ?_
            rintro r h1 ⟨⟨v2, rfl, hv2⟩, rfl⟩
            rw [htf] at hv2 ⊢
            by_cases hm : mk ∈ ms
            · simp [hm] at hv2
              simp [h9, hm, h0]
              refine (oursP hv2 (by omega) _).mono ?_
              rintro r h1 ⟨⟨v3, rfl, hv3⟩, rfl⟩
              simp [h0]
              refine (sameM_spec (hv3 _) (H _) (by omega) (by omega)).mono ?_
              rintro r h1 ⟨rfl, rfl⟩
              simp
            · simp [hm] at hv2
              have hlen := (hv2 h1).len
              obtain ⟨q, e1, e2⟩ := (hv2 h1).at (k := .i64) (i := N - 1) (by omega)
              rw [mks_at hlast] at e2
              have hw : IntKind.i64.wrap ((N : Int) - 1) = ((N - 1 : Nat) : Int) := by rw [wrap64 (by omega) (by omega)]; omega
              have hw2 : IntKind.i64.wrap ((ms.length : Int) + 1) = (ms.length : Int) + 1 := by rw [wrap64 (by omega) (by omega)]
              have hmi : minV h1 (.int .i64 ((ms.length : Int) + 1)) (.int .i64 100) = some (.val (.int .i64 (N : Int)) h1) := by
                simp only [minV, if_true]
                split <;> (congr 3; omega)
              rw [hdl] at hlen
              simp [h9, hm, h0, h2, h4, fadV, q3, asV, hlen, hw, e1, e2, q1, veq_mk, hl, hw2, aop_min, hmi]

end Go.Proofs.Ytpefpiccljohlaa
