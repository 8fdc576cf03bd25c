/- Joined texts. -/
import Derived.Test.YtbabpibaccngnaaGreatZsA
import Derived.Test.YtbabpibaccngnaaGreatZt1
import Derived.Test.YtbabpibaccngnaaGreatZt2
import Derived.Test.YtbabpibaccngnaaGreatZt3
namespace Go.Proofs.YtbabpibaccngnaaGreat
open Go.Vs
set_option maxRecDepth 100000
namespace SB
noncomputable section
def l0 : List K.Stp := [s0, s1, s2, s3, s4, s5, s6, s7, s8, s9, s10]
theorem l0_ok : ∀ s ∈ l0, s.ok CX := (List.forall_mem_cons.2 ⟨s0_ok, (List.forall_mem_cons.2 ⟨s1_ok, (List.forall_mem_cons.2 ⟨s2_ok, (List.forall_mem_cons.2 ⟨s3_ok, (List.forall_mem_cons.2 ⟨s4_ok, (List.forall_mem_cons.2 ⟨s5_ok, (List.forall_mem_cons.2 ⟨s6_ok, (List.forall_mem_cons.2 ⟨s7_ok, (List.forall_mem_cons.2 ⟨s8_ok, (List.forall_mem_cons.2 ⟨s9_ok, (List.forall_mem_cons.2 ⟨s10_ok, (fun _ h => by cases h)⟩)⟩)⟩)⟩)⟩)⟩)⟩)⟩)⟩)⟩)⟩)
def l1 : List K.Stp := [s0, s1, s2, s3, s4, s5, s6, s7, s8, s9, s10, s11, s12, s13, s14]
theorem l1_ok : ∀ s ∈ l1, s.ok CX := (List.forall_mem_cons.2 ⟨s0_ok, (List.forall_mem_cons.2 ⟨s1_ok, (List.forall_mem_cons.2 ⟨s2_ok, (List.forall_mem_cons.2 ⟨s3_ok, (List.forall_mem_cons.2 ⟨s4_ok, (List.forall_mem_cons.2 ⟨s5_ok, (List.forall_mem_cons.2 ⟨s6_ok, (List.forall_mem_cons.2 ⟨s7_ok, (List.forall_mem_cons.2 ⟨s8_ok, (List.forall_mem_cons.2 ⟨s9_ok, (List.forall_mem_cons.2 ⟨s10_ok, (List.forall_mem_cons.2 ⟨s11_ok, (List.forall_mem_cons.2 ⟨s12_ok, (List.forall_mem_cons.2 ⟨s13_ok, (List.forall_mem_cons.2 ⟨s14_ok, (fun _ h => by cases h)⟩)⟩)⟩)⟩)⟩)⟩)⟩)⟩)⟩)⟩)⟩)⟩)⟩)⟩)⟩)
def l2 : List K.Stp := [s0, s1, s2, s3, s4, s5, s6, s7, s8, s9, s10, s11, s12, s13, s14, s15, s16, s17, s18]
theorem l2_ok : ∀ s ∈ l2, s.ok CX := (List.forall_mem_cons.2 ⟨s0_ok, (List.forall_mem_cons.2 ⟨s1_ok, (List.forall_mem_cons.2 ⟨s2_ok, (List.forall_mem_cons.2 ⟨s3_ok, (List.forall_mem_cons.2 ⟨s4_ok, (List.forall_mem_cons.2 ⟨s5_ok, (List.forall_mem_cons.2 ⟨s6_ok, (List.forall_mem_cons.2 ⟨s7_ok, (List.forall_mem_cons.2 ⟨s8_ok, (List.forall_mem_cons.2 ⟨s9_ok, (List.forall_mem_cons.2 ⟨s10_ok, (List.forall_mem_cons.2 ⟨s11_ok, (List.forall_mem_cons.2 ⟨s12_ok, (List.forall_mem_cons.2 ⟨s13_ok, (List.forall_mem_cons.2 ⟨s14_ok, (List.forall_mem_cons.2 ⟨s15_ok, (List.forall_mem_cons.2 ⟨s16_ok, (List.forall_mem_cons.2 ⟨s17_ok, (List.forall_mem_cons.2 ⟨s18_ok, (fun _ h => by cases h)⟩)⟩)⟩)⟩)⟩)⟩)⟩)⟩)⟩)⟩)⟩)⟩)⟩)⟩)⟩)⟩)⟩)⟩)⟩)
def l3 : List K.Stp := [s0, s1, s2, s3, s4, s5, s6, s7, s8, s9, s10, s11, s12, s13, s14, s15, s16, s17, s18, s19, s20, s21, s22]
theorem l3_ok : ∀ s ∈ l3, s.ok CX := (List.forall_mem_cons.2 ⟨s0_ok, (List.forall_mem_cons.2 ⟨s1_ok, (List.forall_mem_cons.2 ⟨s2_ok, (List.forall_mem_cons.2 ⟨s3_ok, (List.forall_mem_cons.2 ⟨s4_ok, (List.forall_mem_cons.2 ⟨s5_ok, (List.forall_mem_cons.2 ⟨s6_ok, (List.forall_mem_cons.2 ⟨s7_ok, (List.forall_mem_cons.2 ⟨s8_ok, (List.forall_mem_cons.2 ⟨s9_ok, (List.forall_mem_cons.2 ⟨s10_ok, (List.forall_mem_cons.2 ⟨s11_ok, (List.forall_mem_cons.2 ⟨s12_ok, (List.forall_mem_cons.2 ⟨s13_ok, (List.forall_mem_cons.2 ⟨s14_ok, (List.forall_mem_cons.2 ⟨s15_ok, (List.forall_mem_cons.2 ⟨s16_ok, (List.forall_mem_cons.2 ⟨s17_ok, (List.forall_mem_cons.2 ⟨s18_ok, (List.forall_mem_cons.2 ⟨s19_ok, (List.forall_mem_cons.2 ⟨s20_ok, (List.forall_mem_cons.2 ⟨s21_ok, (List.forall_mem_cons.2 ⟨s22_ok, (fun _ h => by cases h)⟩)⟩)⟩)⟩)⟩)⟩)⟩)⟩)⟩)⟩)⟩)⟩)⟩)⟩)⟩)⟩)⟩)⟩)⟩)⟩)⟩)⟩)⟩)
def l4 : List K.Stp := [s0, s1, s2, s3, s4, s23, s24, s25, s26, s9, s10]
theorem l4_ok : ∀ s ∈ l4, s.ok CX := (List.forall_mem_cons.2 ⟨s0_ok, (List.forall_mem_cons.2 ⟨s1_ok, (List.forall_mem_cons.2 ⟨s2_ok, (List.forall_mem_cons.2 ⟨s3_ok, (List.forall_mem_cons.2 ⟨s4_ok, (List.forall_mem_cons.2 ⟨s23_ok, (List.forall_mem_cons.2 ⟨s24_ok, (List.forall_mem_cons.2 ⟨s25_ok, (List.forall_mem_cons.2 ⟨s26_ok, (List.forall_mem_cons.2 ⟨s9_ok, (List.forall_mem_cons.2 ⟨s10_ok, (fun _ h => by cases h)⟩)⟩)⟩)⟩)⟩)⟩)⟩)⟩)⟩)⟩)⟩)
def l5 : List K.Stp := [s0, s1, s2, s3, s4, s23, s24, s25, s26, s9, s10, s11, s12, s13, s14]
theorem l5_ok : ∀ s ∈ l5, s.ok CX := (List.forall_mem_cons.2 ⟨s0_ok, (List.forall_mem_cons.2 ⟨s1_ok, (List.forall_mem_cons.2 ⟨s2_ok, (List.forall_mem_cons.2 ⟨s3_ok, (List.forall_mem_cons.2 ⟨s4_ok, (List.forall_mem_cons.2 ⟨s23_ok, (List.forall_mem_cons.2 ⟨s24_ok, (List.forall_mem_cons.2 ⟨s25_ok, (List.forall_mem_cons.2 ⟨s26_ok, (List.forall_mem_cons.2 ⟨s9_ok, (List.forall_mem_cons.2 ⟨s10_ok, (List.forall_mem_cons.2 ⟨s11_ok, (List.forall_mem_cons.2 ⟨s12_ok, (List.forall_mem_cons.2 ⟨s13_ok, (List.forall_mem_cons.2 ⟨s14_ok, (fun _ h => by cases h)⟩)⟩)⟩)⟩)⟩)⟩)⟩)⟩)⟩)⟩)⟩)⟩)⟩)⟩)⟩)
def l6 : List K.Stp := [s0, s1, s2, s3, s4, s23, s24, s25, s26, s9, s10, s11, s12, s13, s14, s15, s16, s17, s18]
theorem l6_ok : ∀ s ∈ l6, s.ok CX := (List.forall_mem_cons.2 ⟨s0_ok, (List.forall_mem_cons.2 ⟨s1_ok, (List.forall_mem_cons.2 ⟨s2_ok, (List.forall_mem_cons.2 ⟨s3_ok, (List.forall_mem_cons.2 ⟨s4_ok, (List.forall_mem_cons.2 ⟨s23_ok, (List.forall_mem_cons.2 ⟨s24_ok, (List.forall_mem_cons.2 ⟨s25_ok, (List.forall_mem_cons.2 ⟨s26_ok, (List.forall_mem_cons.2 ⟨s9_ok, (List.forall_mem_cons.2 ⟨s10_ok, (List.forall_mem_cons.2 ⟨s11_ok, (List.forall_mem_cons.2 ⟨s12_ok, (List.forall_mem_cons.2 ⟨s13_ok, (List.forall_mem_cons.2 ⟨s14_ok, (List.forall_mem_cons.2 ⟨s15_ok, (List.forall_mem_cons.2 ⟨s16_ok, (List.forall_mem_cons.2 ⟨s17_ok, (List.forall_mem_cons.2 ⟨s18_ok, (fun _ h => by cases h)⟩)⟩)⟩)⟩)⟩)⟩)⟩)⟩)⟩)⟩)⟩)⟩)⟩)⟩)⟩)⟩)⟩)⟩)⟩)
def l7 : List K.Stp := [s0, s1, s2, s3, s4, s23, s24, s25, s26, s9, s10, s11, s12, s13, s14, s15, s16, s17, s18, s19, s20, s21, s22]
theorem l7_ok : ∀ s ∈ l7, s.ok CX := (List.forall_mem_cons.2 ⟨s0_ok, (List.forall_mem_cons.2 ⟨s1_ok, (List.forall_mem_cons.2 ⟨s2_ok, (List.forall_mem_cons.2 ⟨s3_ok, (List.forall_mem_cons.2 ⟨s4_ok, (List.forall_mem_cons.2 ⟨s23_ok, (List.forall_mem_cons.2 ⟨s24_ok, (List.forall_mem_cons.2 ⟨s25_ok, (List.forall_mem_cons.2 ⟨s26_ok, (List.forall_mem_cons.2 ⟨s9_ok, (List.forall_mem_cons.2 ⟨s10_ok, (List.forall_mem_cons.2 ⟨s11_ok, (List.forall_mem_cons.2 ⟨s12_ok, (List.forall_mem_cons.2 ⟨s13_ok, (List.forall_mem_cons.2 ⟨s14_ok, (List.forall_mem_cons.2 ⟨s15_ok, (List.forall_mem_cons.2 ⟨s16_ok, (List.forall_mem_cons.2 ⟨s17_ok, (List.forall_mem_cons.2 ⟨s18_ok, (List.forall_mem_cons.2 ⟨s19_ok, (List.forall_mem_cons.2 ⟨s20_ok, (List.forall_mem_cons.2 ⟨s21_ok, (List.forall_mem_cons.2 ⟨s22_ok, (fun _ h => by cases h)⟩)⟩)⟩)⟩)⟩)⟩)⟩)⟩)⟩)⟩)⟩)⟩)⟩)⟩)⟩)⟩)⟩)⟩)⟩)⟩)⟩)⟩)⟩)
end
theorem cut_i : (K.cutAt 93 F4.c).map (fun z => z.2.1.i) = some (.bin .rem .num (.t 92) (.k (.int .u8 4))) := by kernel_rfl
theorem cut_of {m : Nat} {l : List K.Stp} (hl : ∀ s ∈ l, s.ok CX) {n : Int} (hm : n.tmod 4 = m) {args : List V} (ha : args.length = F4.np)
    (h1 : (K.midE CX (CA [12, 13, 14] l) 1000 93 F4 args).map (fun s => K.getT s.t 92) = some (.int .u8 n))
    (h2 : K.finE CX (CA [12, 13, 14] l) 1000 93 F4 (.int .u8 m) (.bool true) (K.midE CX (CA [12, 13, 14] l) 1000 93 F4 args) = true) : PCalls CX 4 args fun r => r = .ret (.bool true) := by
  refine K.mid_ok CX.ok CX.low (CA.ok _ hl) (n := 1000) (d := 93) (f := 4) (F := F4) (by kernel_rfl) ha (v := .int .u8 m) ?_ h2
  intro s hs p o q hc
  have h0 := cut_i
  rw [hc] at h0
  rw [hs] at h1
  simp only [Option.map_some, Option.some.injEq] at h0 h1
  rw [h0]
  simp [h1, hm]
end SB
end Go.Proofs.YtbabpibaccngnaaGreat
