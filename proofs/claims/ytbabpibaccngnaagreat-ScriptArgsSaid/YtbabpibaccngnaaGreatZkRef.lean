/- The reference's numbers and steps. -/
import Derived.Test.YtbabpibaccngnaaGreatZkArgs
import Derived.Test.YtbabpibaccngnaaGreatZcRef
namespace Go.Proofs.YtbabpibaccngnaaGreat
open Go Go.Vs Go.RowKit
set_option maxRecDepth 100000
set_option linter.unusedSimpArgs false
set_option linter.unusedVariables false
attribute [local simp] unV extV wanted strBin

def rnInv (n0 k : Nat) (st : St) : Prop := ∃ (acc : List UInt8), k ≤ n0 ∧ st.t 0 = .int .u64 k ∧ st.t 3 = .str acc ∧ numB n0 = numB k ++ acc ∧ acc.length ≤ 8 ∧ st.h = [] ∧ st.d = []

theorem refnum_spec {n : Nat} (hn : n < 18446744073709551616) : PCalls CX 68 [.int .u64 n] fun r => r = .ret (.str (numB n)) := by
  refine PCalls.of (acall CX.ok ck68 rfl ?_) fun r hr => by subst hr; exact .str _
  simp [F68]
  refine vc_loop _ _ _ (rnInv n) n ⟨[], Nat.le_refl _, by simp, by simp, by simp, by simp, rfl, rfl⟩ ?_
  rintro k ⟨t, h, d⟩ ⟨acc, hkn, h0, h3, hb, hl, hh, hd⟩
  simp only at h0 h3 hh hd
  subst hh; subst hd
  by_cases hk : k = 0
  · subst hk
    have : numB n = acc := by rw [hb]; simp [numB]
    simp [h0, h3, this]
  · have hk1 : (0 : Int) < k := by omega
    have hk2 : 0 < k := by omega
    have hk3 : decide (0 < k) = true := decide_eq_true hk2
    simp [h0, h3]
    simp only [hk3]
    have hm : IntKind.u8.wrap ((k : Int).tmod 256) = ((UInt8.ofNat (k % 256)).toNat : Int) := by
      rw [Int.tmod_eq_emod_of_nonneg (by omega), show ((k : Int) % 256) = ((k % 256 : Nat) : Int) by omega, wrapu8]
    have hb2 : b2sV [] (.lst true [.int .u8 ((k : Int) % 256)]) = some (.str [UInt8.ofNat (k % 256)]) := by
      have : ((k : Int) % 256).toNat = k % 256 := by omega
      simp [b2sV, V.isStr, src, flat, V.cells, V.isByte, this]
    have hr : 1 + acc.length ≤ room := by unfold room; omega
    have hlen := numB_len 8 (n := n) (by omega)
    rw [hb, List.length_append, numB_pos hk2, List.length_append] at hlen
    simp at hlen
    simp [h0, h3, cviV, hm, fillV, setAll, V.cells, V.one, chunk, hb2, hr]
    have hw : IntKind.u64.wrap ((k : Int) / 256) = ((k / 256 : Nat) : Int) := by
      rw [wrapu64 (by omega) (by omega)]; omega
    refine ⟨k / 256, by omega, UInt8.ofNat (k % 256) :: acc, by omega, by simp [hw], by simp, ?_, by simp; omega, rfl, rfl⟩
    rw [hb, numB_pos hk2]; simp

/-- Between two steps of the reference: what is there so far. -/
def rdInv (v : V) (s : List UInt8) (k : Nat) (st : St) : Prop := ∃ (i : Nat) (ov : V), k + i = s.length ∧ i ≤ 500 ∧ 3 * i ≤ s.length + 2 ∧ st.t 0 = v ∧ st.t 4 = .int .i64 (3 * i : Nat) ∧ st.t 3 = ov ∧
  Vs.Own st.h 0 5 true ov i (decCells s i) ∧ (i = 0 → ov = .nsl) ∧ (i ≠ 0 → 3 * i ≤ s.length) ∧ st.d = []
end Go.Proofs.YtbabpibaccngnaaGreat
