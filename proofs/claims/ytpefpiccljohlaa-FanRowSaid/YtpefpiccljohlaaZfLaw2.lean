/- The laws on groups and on what is taken, over plain data (2). -/
import Derived.Test.YtpefpiccljohlaaZfLaw1
namespace Go.Proofs.Ytpefpiccljohlaa
open Go.Vs Go.RowKit
set_option linter.unusedSimpArgs false
set_option linter.unusedVariables false
attribute [local simp] unV extV wanted strBin

abbrev Yes : Res → Prop := fun r => r = .ret (.bool true)

theorem aliveP (h : Hp) : ACalls FX 8 [] h (fun r h' => r = .ret (.bool true) ∧ h' = h) := PCalls.at FX.low alive_spec (by simp) h

set_option maxHeartbeats 4000000 in
/-- FanGroups: whatever the texts, true. -/
theorem fanGroups_law {g : V} {ps : List (List UInt8)} {p : List UInt8} (H : Fz 1 g ps.length (ps.map .str)) (hn : ps.length < 9223372036854775808) : PCalls FX 3 [g, .str p] Yes := by
  refine acall FX.ok ck3 rfl ?_
  simp [F3]
  refine (aliveP _).mono ?_
  rintro r h ⟨rfl, rfl⟩
  simp [unV]
  refine (few_spec (H _) hn).mono ?_
  rintro r h ⟨b, rfl, rfl, hb⟩
  cases b with
  | false => simp [wanted]
  | true =>
    obtain ⟨h200, hall⟩ := hb rfl
    by_cases h500 : (500 : Int) < p.length
    · simp [wanted, h500]
    · simp [wanted, h500]
      refine (addP H (by omega) _).mono ?_
      rintro r h ⟨⟨v1, rfl, hv1⟩, rfl⟩
      simp [extV]
      refine (refAddP H (by omega) _).mono ?_
      rintro r h ⟨⟨v2, rfl, hv2⟩, rfl⟩
      simp [extV]
      refine (removeP H (by omega) _).mono ?_
      rintro r h ⟨⟨v3, rfl, hv3⟩, rfl⟩
      simp [extV]
      refine (refRemoveP H (by omega) _).mono ?_
      rintro r h ⟨⟨v4, rfl, hv4⟩, rfl⟩
      have l1 : (addL ps p).1.length ≤ ps.length + 1 := by unfold addL; split <;> (try split) <;> (try split) <;> simp
      have l2 : (remL ps p).1.length ≤ ps.length := by unfold remL; split <;> simp; omega
      simp [extV]
      refine (same_spec (hv1 _) (hv2 _) (by omega) (by omega)).mono ?_
      rintro r h ⟨rfl, rfl⟩
      simp [wanted]
      refine (same_spec (hv3 _) (hv4 _) (by omega) (by omega)).mono ?_
      rintro r h ⟨rfl, rfl⟩
      simp

set_option maxHeartbeats 4000000 in
/-- FanTakes: whatever the marks and texts, true. -/
theorem fanTakes_law {s : V} {ms : List Mk} {fr pl : List UInt8} (H : Fz 2 s ms.length (mks ms)) (hn : ms.length < 9223372036854775808) : PCalls FX 4 [s, .str fr, .str pl] Yes := by
  refine acall FX.ok ck4 rfl ?_
  simp [F4]
  refine (aliveP _).mono ?_
  rintro r h ⟨rfl, rfl⟩
  have hl := (H []).len
  simp [unV, hl]
  by_cases h200 : (200 : Int) < ms.length
  · have : ¬ (ms.length : Int) ≤ 200 := by omega
    simp [h200, this]
  · have h200' : (ms.length : Int) ≤ 200 := by omega
    by_cases h500 : (500 : Int) < fr.length
    · have h500' : ¬ (fr.length : Int) ≤ 500 := by omega
      simp [h200, h200', h500, h500']
    · have h500' : (fr.length : Int) ≤ 500 := by omega
      by_cases h5000 : (5000 : Int) < pl.length
      · simp [h200, h200', h500, h500', h5000]
      · simp [h200, h200', h500, h500', h5000]
        refine (theirsP H (by omega) _).mono ?_
        rintro r h ⟨⟨v1, rfl, hv1⟩, rfl⟩
        simp
        refine (takeP hv1 (by omega) (by omega) _).mono ?_
        rintro r h ⟨⟨v2, rfl, hv2⟩, rfl⟩
        simp [extV]
        refine (refTakeP H (by omega) (by omega) _).mono ?_
        rintro r h ⟨⟨v3, rfl, hv3⟩, rfl⟩
        have hid : (takeF ms fr pl).2.1 < 18446744073709551616 := by
          unfold takeF
          split
          · simp
          · split
            · simp
            · rename_i id hr
              split
              · simp
              · unfold readN at hr
                split at hr
                · rename_i hc
                  cases hr
                  exact Nat.lt_of_lt_of_le (numOf_lt _) (Nat.le_trans (Nat.pow_le_pow_right (by omega) hc.1) (by decide))
                · cases hr
        have hle : (takeF ms fr pl).1.length ≤ ms.length + 1 := by
          unfold takeF
          split
          · simp
          · split
            · simp
            · split <;> simp
        simp [extV]
        refine (payP hid _).mono ?_
        rintro r h ⟨rfl, rfl⟩
        simp [extV]
        refine (refPayload_spec hid).mono ?_
        rintro r h ⟨rfl, rfl⟩
        simp [extV]
        refine (oursP hv2 (by omega) _).mono ?_
        rintro r h ⟨⟨v4, rfl, hv4⟩, rfl⟩
        simp
        refine (sameM_spec (hv4 _) (hv3 _) (by omega) (by omega)).mono ?_
        rintro r h ⟨rfl, rfl⟩
        simp [wanted, strBin]

end Go.Proofs.Ytpefpiccljohlaa
