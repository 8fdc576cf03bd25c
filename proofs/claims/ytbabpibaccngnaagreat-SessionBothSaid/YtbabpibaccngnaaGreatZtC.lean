/- Joined texts. -/
import Derived.Test.YtbabpibaccngnaaGreatZtB
import Derived.KernelRfl
namespace Go.Proofs.YtbabpibaccngnaaGreat
open Go.Vs
set_option maxRecDepth 100000
namespace SB
theorem t0 (n : Int) (hm : n.tmod 4 = (0 : Nat)) : PCalls CX 4 [.bool false, .int .u8 n] fun r => r = .ret (.bool true) := cut_of l0_ok hm rfl (by kernel_rfl) (by kernel_rfl)
theorem t1 (n : Int) (hm : n.tmod 4 = (1 : Nat)) : PCalls CX 4 [.bool false, .int .u8 n] fun r => r = .ret (.bool true) := cut_of l1_ok hm rfl (by kernel_rfl) (by kernel_rfl)
theorem t2 (n : Int) (hm : n.tmod 4 = (2 : Nat)) : PCalls CX 4 [.bool false, .int .u8 n] fun r => r = .ret (.bool true) := cut_of l2_ok hm rfl (by kernel_rfl) (by kernel_rfl)
theorem t3 (n : Int) (hm : n.tmod 4 = (3 : Nat)) : PCalls CX 4 [.bool false, .int .u8 n] fun r => r = .ret (.bool true) := cut_of l3_ok hm rfl (by kernel_rfl) (by kernel_rfl)
theorem t4 (n : Int) (hm : n.tmod 4 = (0 : Nat)) : PCalls CX 4 [.bool true, .int .u8 n] fun r => r = .ret (.bool true) := cut_of l4_ok hm rfl (by kernel_rfl) (by kernel_rfl)
theorem t5 (n : Int) (hm : n.tmod 4 = (1 : Nat)) : PCalls CX 4 [.bool true, .int .u8 n] fun r => r = .ret (.bool true) := cut_of l5_ok hm rfl (by kernel_rfl) (by kernel_rfl)
theorem t6 (n : Int) (hm : n.tmod 4 = (2 : Nat)) : PCalls CX 4 [.bool true, .int .u8 n] fun r => r = .ret (.bool true) := cut_of l6_ok hm rfl (by kernel_rfl) (by kernel_rfl)
theorem t7 (n : Int) (hm : n.tmod 4 = (3 : Nat)) : PCalls CX 4 [.bool true, .int .u8 n] fun r => r = .ret (.bool true) := cut_of l7_ok hm rfl (by kernel_rfl) (by kernel_rfl)
theorem g0 (n : Int) (h0 : 0 ≤ n) : PCalls CX 4 [.bool false, .int .u8 n] fun r => r = .ret (.bool true) := by
  have h : n.tmod 4 = n % 4 := Int.tmod_eq_emod_of_nonneg h0
  have h1 : n % 4 = 0 ∨ n % 4 = 1 ∨ n % 4 = 2 ∨ n % 4 = 3 := by omega
  rw [← h] at h1
  rcases h1 with h1 | h1 | h1 | h1
  · exact t0 n h1
  · exact t1 n h1
  · exact t2 n h1
  · exact t3 n h1
theorem g1 (n : Int) (h0 : 0 ≤ n) : PCalls CX 4 [.bool true, .int .u8 n] fun r => r = .ret (.bool true) := by
  have h : n.tmod 4 = n % 4 := Int.tmod_eq_emod_of_nonneg h0
  have h1 : n % 4 = 0 ∨ n % 4 = 1 ∨ n % 4 = 2 ∨ n % 4 = 3 := by omega
  rw [← h] at h1
  rcases h1 with h1 | h1 | h1 | h1
  · exact t4 n h1
  · exact t5 n h1
  · exact t6 n h1
  · exact t7 n h1
end SB
end Go.Proofs.YtbabpibaccngnaaGreat
