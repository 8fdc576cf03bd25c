/- Joined texts. -/
import Derived.Test.YtbabpibaccngnaaGreatZsB
import Derived.KernelRfl
namespace Go.Proofs.YtbabpibaccngnaaGreat
open Go.Vs
set_option maxRecDepth 100000
theorem anew0 (n : Int) (hm : n.tmod 5 = (0 : Nat)) : PCalls CX 3 [.int .u8 n] fun r => r = .ret (.bool true) := anew_of l0_ok hm (by kernel_rfl) (by kernel_rfl)
theorem anew1 (n : Int) (hm : n.tmod 5 = (1 : Nat)) : PCalls CX 3 [.int .u8 n] fun r => r = .ret (.bool true) := anew_of l1_ok hm (by kernel_rfl) (by kernel_rfl)
theorem anew2 (n : Int) (hm : n.tmod 5 = (2 : Nat)) : PCalls CX 3 [.int .u8 n] fun r => r = .ret (.bool true) := anew_of l2_ok hm (by kernel_rfl) (by kernel_rfl)
theorem anew3 (n : Int) (hm : n.tmod 5 = (3 : Nat)) : PCalls CX 3 [.int .u8 n] fun r => r = .ret (.bool true) := anew_of l3_ok hm (by kernel_rfl) (by kernel_rfl)
theorem anew4 (n : Int) (hm : n.tmod 5 = (4 : Nat)) : PCalls CX 3 [.int .u8 n] fun r => r = .ret (.bool true) := anew_of l4_ok hm (by kernel_rfl) (by kernel_rfl)
theorem sessionAnew_law (n : Int) (h0 : 0 ≤ n) : PCalls CX 3 [.int .u8 n] fun r => r = .ret (.bool true) := by
  have h : n.tmod 5 = n % 5 := Int.tmod_eq_emod_of_nonneg h0
  have h1 : n % 5 = 0 ∨ n % 5 = 1 ∨ n % 5 = 2 ∨ n % 5 = 3 ∨ n % 5 = 4 := by omega
  rw [← h] at h1
  rcases h1 with h1 | h1 | h1 | h1 | h1
  · exact anew0 n h1
  · exact anew1 n h1
  · exact anew2 n h1
  · exact anew3 n h1
  · exact anew4 n h1
end Go.Proofs.YtbabpibaccngnaaGreat
