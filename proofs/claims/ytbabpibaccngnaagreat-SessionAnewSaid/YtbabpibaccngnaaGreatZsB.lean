/- Joined texts. -/
import Derived.Test.YtbabpibaccngnaaGreatZsA
import Derived.Test.YtbabpibaccngnaaGreatZs1
import Derived.Test.YtbabpibaccngnaaGreatZs2
import Derived.Test.YtbabpibaccngnaaGreatZs3
import Derived.Test.YtbabpibaccngnaaGreatZs4
import Derived.Test.YtbabpibaccngnaaGreatZs5
namespace Go.Proofs.YtbabpibaccngnaaGreat
open Go.Vs
set_option maxRecDepth 100000
noncomputable section
def l0 : List K.Stp := [S.s0, S.s1, S.s2, S.s3, S.s4, S.s5, S.s6, S.s7, S.s8, S.s9, S.s10, S.s11, S.s12]
theorem l0_ok : ∀ s ∈ l0, s.ok CX := (List.forall_mem_cons.2 ⟨S.s0_ok, (List.forall_mem_cons.2 ⟨S.s1_ok, (List.forall_mem_cons.2 ⟨S.s2_ok, (List.forall_mem_cons.2 ⟨S.s3_ok, (List.forall_mem_cons.2 ⟨S.s4_ok, (List.forall_mem_cons.2 ⟨S.s5_ok, (List.forall_mem_cons.2 ⟨S.s6_ok, (List.forall_mem_cons.2 ⟨S.s7_ok, (List.forall_mem_cons.2 ⟨S.s8_ok, (List.forall_mem_cons.2 ⟨S.s9_ok, (List.forall_mem_cons.2 ⟨S.s10_ok, (List.forall_mem_cons.2 ⟨S.s11_ok, (List.forall_mem_cons.2 ⟨S.s12_ok, (fun _ h => by cases h)⟩)⟩)⟩)⟩)⟩)⟩)⟩)⟩)⟩)⟩)⟩)⟩)⟩)
def l1 : List K.Stp := [S.s0, S.s1, S.s2, S.s3, S.s4, S.s5, S.s13, S.s14, S.s15, S.s16, S.s17, S.s18, S.s19, S.s20, S.s21, S.s22, S.s23]
theorem l1_ok : ∀ s ∈ l1, s.ok CX := (List.forall_mem_cons.2 ⟨S.s0_ok, (List.forall_mem_cons.2 ⟨S.s1_ok, (List.forall_mem_cons.2 ⟨S.s2_ok, (List.forall_mem_cons.2 ⟨S.s3_ok, (List.forall_mem_cons.2 ⟨S.s4_ok, (List.forall_mem_cons.2 ⟨S.s5_ok, (List.forall_mem_cons.2 ⟨S.s13_ok, (List.forall_mem_cons.2 ⟨S.s14_ok, (List.forall_mem_cons.2 ⟨S.s15_ok, (List.forall_mem_cons.2 ⟨S.s16_ok, (List.forall_mem_cons.2 ⟨S.s17_ok, (List.forall_mem_cons.2 ⟨S.s18_ok, (List.forall_mem_cons.2 ⟨S.s19_ok, (List.forall_mem_cons.2 ⟨S.s20_ok, (List.forall_mem_cons.2 ⟨S.s21_ok, (List.forall_mem_cons.2 ⟨S.s22_ok, (List.forall_mem_cons.2 ⟨S.s23_ok, (fun _ h => by cases h)⟩)⟩)⟩)⟩)⟩)⟩)⟩)⟩)⟩)⟩)⟩)⟩)⟩)⟩)⟩)⟩)⟩)
def l2 : List K.Stp := [S.s0, S.s1, S.s2, S.s3, S.s4, S.s5, S.s13, S.s14, S.s15, S.s16, S.s24, S.s25, S.s26, S.s27, S.s28, S.s29, S.s30, S.s31, S.s32, S.s33, S.s34]
theorem l2_ok : ∀ s ∈ l2, s.ok CX := (List.forall_mem_cons.2 ⟨S.s0_ok, (List.forall_mem_cons.2 ⟨S.s1_ok, (List.forall_mem_cons.2 ⟨S.s2_ok, (List.forall_mem_cons.2 ⟨S.s3_ok, (List.forall_mem_cons.2 ⟨S.s4_ok, (List.forall_mem_cons.2 ⟨S.s5_ok, (List.forall_mem_cons.2 ⟨S.s13_ok, (List.forall_mem_cons.2 ⟨S.s14_ok, (List.forall_mem_cons.2 ⟨S.s15_ok, (List.forall_mem_cons.2 ⟨S.s16_ok, (List.forall_mem_cons.2 ⟨S.s24_ok, (List.forall_mem_cons.2 ⟨S.s25_ok, (List.forall_mem_cons.2 ⟨S.s26_ok, (List.forall_mem_cons.2 ⟨S.s27_ok, (List.forall_mem_cons.2 ⟨S.s28_ok, (List.forall_mem_cons.2 ⟨S.s29_ok, (List.forall_mem_cons.2 ⟨S.s30_ok, (List.forall_mem_cons.2 ⟨S.s31_ok, (List.forall_mem_cons.2 ⟨S.s32_ok, (List.forall_mem_cons.2 ⟨S.s33_ok, (List.forall_mem_cons.2 ⟨S.s34_ok, (fun _ h => by cases h)⟩)⟩)⟩)⟩)⟩)⟩)⟩)⟩)⟩)⟩)⟩)⟩)⟩)⟩)⟩)⟩)⟩)⟩)⟩)⟩)⟩)
def l3 : List K.Stp := [S.s0, S.s1, S.s2, S.s3, S.s4, S.s5, S.s13, S.s14, S.s15, S.s16, S.s24, S.s25, S.s26, S.s27, S.s35, S.s36, S.s37, S.s38, S.s39, S.s40, S.s41, S.s42, S.s43, S.s44, S.s45]
theorem l3_ok : ∀ s ∈ l3, s.ok CX := (List.forall_mem_cons.2 ⟨S.s0_ok, (List.forall_mem_cons.2 ⟨S.s1_ok, (List.forall_mem_cons.2 ⟨S.s2_ok, (List.forall_mem_cons.2 ⟨S.s3_ok, (List.forall_mem_cons.2 ⟨S.s4_ok, (List.forall_mem_cons.2 ⟨S.s5_ok, (List.forall_mem_cons.2 ⟨S.s13_ok, (List.forall_mem_cons.2 ⟨S.s14_ok, (List.forall_mem_cons.2 ⟨S.s15_ok, (List.forall_mem_cons.2 ⟨S.s16_ok, (List.forall_mem_cons.2 ⟨S.s24_ok, (List.forall_mem_cons.2 ⟨S.s25_ok, (List.forall_mem_cons.2 ⟨S.s26_ok, (List.forall_mem_cons.2 ⟨S.s27_ok, (List.forall_mem_cons.2 ⟨S.s35_ok, (List.forall_mem_cons.2 ⟨S.s36_ok, (List.forall_mem_cons.2 ⟨S.s37_ok, (List.forall_mem_cons.2 ⟨S.s38_ok, (List.forall_mem_cons.2 ⟨S.s39_ok, (List.forall_mem_cons.2 ⟨S.s40_ok, (List.forall_mem_cons.2 ⟨S.s41_ok, (List.forall_mem_cons.2 ⟨S.s42_ok, (List.forall_mem_cons.2 ⟨S.s43_ok, (List.forall_mem_cons.2 ⟨S.s44_ok, (List.forall_mem_cons.2 ⟨S.s45_ok, (fun _ h => by cases h)⟩)⟩)⟩)⟩)⟩)⟩)⟩)⟩)⟩)⟩)⟩)⟩)⟩)⟩)⟩)⟩)⟩)⟩)⟩)⟩)⟩)⟩)⟩)⟩)⟩)
def l4 : List K.Stp := [S.s0, S.s1, S.s2, S.s3, S.s4, S.s5, S.s13, S.s14, S.s15, S.s16, S.s24, S.s25, S.s26, S.s27, S.s35, S.s36, S.s37, S.s38, S.s46, S.s47, S.s48, S.s49, S.s50, S.s51, S.s52, S.s53, S.s54, S.s55, S.s56]
theorem l4_ok : ∀ s ∈ l4, s.ok CX := (List.forall_mem_cons.2 ⟨S.s0_ok, (List.forall_mem_cons.2 ⟨S.s1_ok, (List.forall_mem_cons.2 ⟨S.s2_ok, (List.forall_mem_cons.2 ⟨S.s3_ok, (List.forall_mem_cons.2 ⟨S.s4_ok, (List.forall_mem_cons.2 ⟨S.s5_ok, (List.forall_mem_cons.2 ⟨S.s13_ok, (List.forall_mem_cons.2 ⟨S.s14_ok, (List.forall_mem_cons.2 ⟨S.s15_ok, (List.forall_mem_cons.2 ⟨S.s16_ok, (List.forall_mem_cons.2 ⟨S.s24_ok, (List.forall_mem_cons.2 ⟨S.s25_ok, (List.forall_mem_cons.2 ⟨S.s26_ok, (List.forall_mem_cons.2 ⟨S.s27_ok, (List.forall_mem_cons.2 ⟨S.s35_ok, (List.forall_mem_cons.2 ⟨S.s36_ok, (List.forall_mem_cons.2 ⟨S.s37_ok, (List.forall_mem_cons.2 ⟨S.s38_ok, (List.forall_mem_cons.2 ⟨S.s46_ok, (List.forall_mem_cons.2 ⟨S.s47_ok, (List.forall_mem_cons.2 ⟨S.s48_ok, (List.forall_mem_cons.2 ⟨S.s49_ok, (List.forall_mem_cons.2 ⟨S.s50_ok, (List.forall_mem_cons.2 ⟨S.s51_ok, (List.forall_mem_cons.2 ⟨S.s52_ok, (List.forall_mem_cons.2 ⟨S.s53_ok, (List.forall_mem_cons.2 ⟨S.s54_ok, (List.forall_mem_cons.2 ⟨S.s55_ok, (List.forall_mem_cons.2 ⟨S.s56_ok, (fun _ h => by cases h)⟩)⟩)⟩)⟩)⟩)⟩)⟩)⟩)⟩)⟩)⟩)⟩)⟩)⟩)⟩)⟩)⟩)⟩)⟩)⟩)⟩)⟩)⟩)⟩)⟩)⟩)⟩)⟩)⟩)
end
theorem anew_i : (K.cutAt 45 F3.c).map (fun z => z.2.1.i) = some (.bin .rem .num (.t 44) (.k (.int .u8 5))) := by kernel_rfl
theorem anew_of {m : Nat} {l : List K.Stp} (hl : ∀ s ∈ l, s.ok CX) {n : Int} (hm : n.tmod 5 = m)
    (h1 : (K.midE CX (CA [12, 13, 14] l) 1000 45 F3 [.int .u8 n]).map (fun s => K.getT s.t 44) = some (.int .u8 n))
    (h2 : K.finE CX (CA [12, 13, 14] l) 1000 45 F3 (.int .u8 m) (.bool true) (K.midE CX (CA [12, 13, 14] l) 1000 45 F3 [.int .u8 n]) = true) : PCalls CX 3 [.int .u8 n] fun r => r = .ret (.bool true) := by
  refine K.mid_ok CX.ok CX.low (CA.ok _ hl) (n := 1000) (d := 45) (f := 3) (F := F3) (by kernel_rfl) rfl (v := .int .u8 m) ?_ h2
  intro s hs p o q hc
  have h0 := anew_i
  rw [hc] at h0
  rw [hs] at h1
  simp only [Option.map_some, Option.some.injEq] at h0 h1
  rw [h0]
  simp [h1, hm]
end Go.Proofs.YtbabpibaccngnaaGreat
