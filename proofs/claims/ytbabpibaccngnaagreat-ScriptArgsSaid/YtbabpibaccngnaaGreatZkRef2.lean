/- The reference's steps. -/
import Derived.Test.YtbabpibaccngnaaGreatZkRef
import Derived.Test.YtbabpibaccngnaaGreatZv6
import Derived.KernelRfl
namespace Go.Proofs.YtbabpibaccngnaaGreat
open Go Go.Vs Go.RowKit
set_option maxRecDepth 100000
set_option linter.unusedSimpArgs false
set_option linter.unusedVariables false
attribute [local simp] unV extV wanted strBin

theorem own_push {h : Hp} {k es : Nat} {ag : Bool} {v : V} {n : Nat} {ys : List V} (H : Vs.Own h k es ag v n ys) (l : Hp) : Vs.Own (h ++ l) k es ag v n ys := by
  refine ⟨H.1, ?_⟩
  rcases H.2 with hh | hh | ⟨b, cap, ex, rest, ty, c1, c2, c3, c4⟩
  · exact .inl hh
  · exact .inr (.inl hh)
  · exact .inr (.inr ⟨b, cap, ex, rest, ty, c1, c2, by rw [hget_old (hget_lt c3)]; exact c3, c4⟩)
theorem vLs_q {x : X} {ops : List A} {L : List Nat} {Q : Ex → St → Prop} {i : Nat} {r : List (Nat × Option (List Nat))} {s : St} {d : Option Nat} {j : I} {v : V} (ho : ops[i]? = some ⟨d, j, none⟩) (hv : aop x s.t s.h j = some (.val v s.h)) (h : vLs x ops L Q r { s with t := put s.t d v }) : vLs x ops L Q ((i, none) :: r) s := by
  have e : nth ops i = some ⟨d, j, none⟩ := ho
  simp only [vLs, e, vLg, hv, vLq, dstO]
  exact ⟨trivial, h⟩

theorem vLs_s {x : X} {ops : List A} {L re : List Nat} {Q : Ex → St → Prop} {i : Nat} {r : List (Nat × Option (List Nat))} {s : St} {b : A} (ho : ops[i]? = some b) (h : vop x b (anyT Q) (fun s' => reL x ops re s' ∧ vLs x ops L Q r s') (tell ops (nd ops L i) s)) : vLs x ops L Q ((i, some re) :: r) s := by
  have e : nth ops i = some b := ho
  simp only [vLs, e]
  exact h

def opsR : List A := [⟨(some 18), (.mov (.t 0)), none⟩,
            ⟨(some 19), (.mov (.t 4)), none⟩,
            ⟨(some 20), (.iad 1 (.t 18) (.t 19)), none⟩,
            ⟨(some 21), (.load 1 false (.t 20)), none⟩,
            ⟨(some 22), (.cvi .i64 (.t 21)), none⟩,
            ⟨(some 23), (.bin .rem .num (.t 22) (.k (.int .i64 12))), none⟩,
            ⟨(some 24), (.bin .add .num (.t 23) (.k (.int .i64 1))), none⟩,
            ⟨(some 25), (.mov (.t 0)), none⟩,
            ⟨(some 26), (.mov (.t 4)), none⟩,
            ⟨(some 27), (.bin .add .num (.t 26) (.k (.int .i64 1))), none⟩,
            ⟨(some 28), (.iad 1 (.t 25) (.t 27)), none⟩,
            ⟨(some 29), (.load 1 false (.t 28)), none⟩,
            ⟨(some 30), (.bin .rem .num (.t 29) (.k (.int .u8 6))), none⟩,
            ⟨(some 31), (.mov (.t 0)), none⟩,
            ⟨(some 32), (.mov (.t 4)), none⟩,
            ⟨(some 33), (.bin .add .num (.t 32) (.k (.int .i64 1))), none⟩,
            ⟨(some 34), (.iad 1 (.t 31) (.t 33)), none⟩,
            ⟨(some 35), (.load 1 false (.t 34)), none⟩,
            ⟨(some 36), (.bin .quo .num (.t 35) (.k (.int .u8 6))), none⟩,
            ⟨(some 37), (.bin .rem .num (.t 36) (.k (.int .u8 6))), none⟩,
            ⟨(some 38), (.mov (.t 0)), none⟩,
            ⟨(some 39), (.mov (.t 4)), none⟩,
            ⟨(some 40), (.bin .add .num (.t 39) (.k (.int .i64 2))), none⟩,
            ⟨(some 41), (.iad 1 (.t 38) (.t 40)), none⟩,
            ⟨(some 42), (.load 1 false (.t 41)), none⟩,
            ⟨(some 43), (.cvi .u64 (.t 42)), none⟩,
            ⟨(some 44), (.build [(.int .i64 0), (.int .u8 0), (.int .u8 0), (.int .u64 0), (.str [])] [(0, 1, (.t 24)), (1, 1, (.t 30)), (2, 1, (.t 37)), (3, 1, (.t 43))]), none⟩,
            ⟨(some 5), (.new [(.int .i64 0), (.int .u8 0), (.int .u8 0), (.int .u64 0), (.str [])] none), none⟩,
            ⟨none, (.store 5 (.t 5) (.t 44)), none⟩]
def linR : List (Nat × Option (List Nat)) := [(0, none), (1, none), (2, none), (3, none), (4, none), (5, none), (6, none), (7, none), (8, none), (9, none), (10, none), (11, none), (12, none), (13, none), (14, none), (15, none), (16, none), (17, none), (18, none), (19, none), (20, none), (21, none), (22, none), (23, none), (24, none), (25, none), (26, none), (28, some [])]

theorem ndR : nd opsR [27] 28 = [27] := by kernel_rfl
theorem opsR27 : opsR[27]? = some ⟨some 5, .new [(.int .i64 0), (.int .u8 0), (.int .u8 0), (.int .u64 0), (.str [])] none, none⟩ := by kernel_rfl
theorem tellR (s : St) : tell opsR (nd opsR [27] 28) s = { s with t := put s.t (some 5) (.ptr s.h.length 0), h := s.h ++ [some (.cells [(.int .i64 0), (.int .u8 0), (.int .u8 0), (.int .u64 0), (.str [])] none)] } := by
  rw [ndR]
  simp only [tell, opsR27, tell1]
theorem lin29 {t : Nat → V} {h : Hp} {i : Nat} {v : V} {b0 b1 b2 : UInt8} {Q : Ex → St → Prop} (t0 : t 0 = v) (t4 : t 4 = .int .i64 (3 * (i : Int))) (hi : i < 500)
   (a0 : iadV 1 v (.int .i64 (3 * (i : Int))) = some (.fp [.int .u8 b0.toNat] 0)) (a1 : iadV 1 v (.int .i64 (3 * (i : Int) + 1)) = some (.fp [.int .u8 b1.toNat] 0)) (a2 : iadV 1 v (.int .i64 (3 * (i : Int) + 2)) = some (.fp [.int .u8 b2.toNat] 0))
   (hQ : ∀ t', t' 0 = t 0 → t' 3 = t 3 → t' 4 = t 4 → t' 5 = .ptr h.length 0 → Q .normal { t := t', h := h ++ [some (.cells [.int .i64 ((b0.toNat : Int).tmod 12 + 1), .int .u8 ((b1.toNat : Int).tmod 6), .int .u8 ((IntKind.u8.wrap ((b1.toNat : Int) / 6)).tmod 6), .int .u64 b2.toNat, .str []] none)], d := [] }) :
   vLs CX opsR [27] Q linR { t, h, d := [] } := by
  have r0 : rd h (.fp [.int .u8 b0.toNat] 0) 1 = some [.int .u8 b0.toNat] := rfl
  have r1 : rd h (.fp [.int .u8 b1.toNat] 0) 1 = some [.int .u8 b1.toNat] := rfl
  have r2 : rd h (.fp [.int .u8 b2.toNat] 0) 1 = some [.int .u8 b2.toNat] := rfl
  have hb0 := b0.toNat_lt
  have hb1 := b1.toNat_lt
  have hb2 := b2.toNat_lt
  have w1 : IntKind.i64.wrap ((3 * (i : Int)) + 1) = (3 * (i : Int) + 1) := by exact wrap64 (by omega) (by omega)
  have w2 : IntKind.i64.wrap ((3 * (i : Int)) + 2) = (3 * (i : Int) + 2) := by exact wrap64 (by omega) (by omega)
  have w3 : IntKind.i64.wrap (b0.toNat : Int) = b0.toNat := wrap64 (by omega) (by omega)
  have w4 : IntKind.u64.wrap (b2.toNat : Int) = b2.toNat := wrapu64 (by omega) (by omega)
  have w5 : IntKind.i64.wrap ((b0.toNat : Int).tmod 12 + 1) = (b0.toNat : Int).tmod 12 + 1 := by
    rw [Int.tmod_eq_emod_of_nonneg (by omega)]
    exact wrap64 (by omega) (by omega)
  refine vLs_q (v := v) rfl (by simp [t0, t4, a0, a1, a2, r0, r1, r2, w1, w2, w3, w4, w5, asV, cviV, fillV, setAll, V.cells, V.one]) ?_
  refine vLs_q (v := .int .i64 (3 * (i : Int))) rfl (by simp [t0, t4, a0, a1, a2, r0, r1, r2, w1, w2, w3, w4, w5, asV, cviV, fillV, setAll, V.cells, V.one]) ?_
  refine vLs_q (v := .fp [.int .u8 b0.toNat] 0) rfl (by simp [t0, t4, a0, a1, a2, r0, r1, r2, w1, w2, w3, w4, w5, asV, cviV, fillV, setAll, V.cells, V.one]) ?_
  refine vLs_q (v := .int .u8 b0.toNat) rfl (by simp [t0, t4, a0, a1, a2, r0, r1, r2, w1, w2, w3, w4, w5, asV, cviV, fillV, setAll, V.cells, V.one]) ?_
  refine vLs_q (v := .int .i64 b0.toNat) rfl (by simp [t0, t4, a0, a1, a2, r0, r1, r2, w1, w2, w3, w4, w5, asV, cviV, fillV, setAll, V.cells, V.one]) ?_
  refine vLs_q (v := .int .i64 ((b0.toNat : Int).tmod 12)) rfl (by simp [t0, t4, a0, a1, a2, r0, r1, r2, w1, w2, w3, w4, w5, asV, cviV, fillV, setAll, V.cells, V.one]) ?_
  refine vLs_q (v := .int .i64 ((b0.toNat : Int).tmod 12 + 1)) rfl (by simp [t0, t4, a0, a1, a2, r0, r1, r2, w1, w2, w3, w4, w5, asV, cviV, fillV, setAll, V.cells, V.one]) ?_
  refine vLs_q (v := v) rfl (by simp [t0, t4, a0, a1, a2, r0, r1, r2, w1, w2, w3, w4, w5, asV, cviV, fillV, setAll, V.cells, V.one]) ?_
  refine vLs_q (v := .int .i64 (3 * (i : Int))) rfl (by simp [t0, t4, a0, a1, a2, r0, r1, r2, w1, w2, w3, w4, w5, asV, cviV, fillV, setAll, V.cells, V.one]) ?_
  refine vLs_q (v := .int .i64 (3 * (i : Int) + 1)) rfl (by simp [t0, t4, a0, a1, a2, r0, r1, r2, w1, w2, w3, w4, w5, asV, cviV, fillV, setAll, V.cells, V.one]) ?_
  refine vLs_q (v := .fp [.int .u8 b1.toNat] 0) rfl (by simp [t0, t4, a0, a1, a2, r0, r1, r2, w1, w2, w3, w4, w5, asV, cviV, fillV, setAll, V.cells, V.one]) ?_
  refine vLs_q (v := .int .u8 b1.toNat) rfl (by simp [t0, t4, a0, a1, a2, r0, r1, r2, w1, w2, w3, w4, w5, asV, cviV, fillV, setAll, V.cells, V.one]) ?_
  refine vLs_q (v := .int .u8 ((b1.toNat : Int).tmod 6)) rfl (by simp [t0, t4, a0, a1, a2, r0, r1, r2, w1, w2, w3, w4, w5, asV, cviV, fillV, setAll, V.cells, V.one]) ?_
  refine vLs_q (v := v) rfl (by simp [t0, t4, a0, a1, a2, r0, r1, r2, w1, w2, w3, w4, w5, asV, cviV, fillV, setAll, V.cells, V.one]) ?_
  refine vLs_q (v := .int .i64 (3 * (i : Int))) rfl (by simp [t0, t4, a0, a1, a2, r0, r1, r2, w1, w2, w3, w4, w5, asV, cviV, fillV, setAll, V.cells, V.one]) ?_
  refine vLs_q (v := .int .i64 (3 * (i : Int) + 1)) rfl (by simp [t0, t4, a0, a1, a2, r0, r1, r2, w1, w2, w3, w4, w5, asV, cviV, fillV, setAll, V.cells, V.one]) ?_
  refine vLs_q (v := .fp [.int .u8 b1.toNat] 0) rfl (by simp [t0, t4, a0, a1, a2, r0, r1, r2, w1, w2, w3, w4, w5, asV, cviV, fillV, setAll, V.cells, V.one]) ?_
  refine vLs_q (v := .int .u8 b1.toNat) rfl (by simp [t0, t4, a0, a1, a2, r0, r1, r2, w1, w2, w3, w4, w5, asV, cviV, fillV, setAll, V.cells, V.one]) ?_
  refine vLs_q (v := .int .u8 (IntKind.u8.wrap ((b1.toNat : Int) / 6))) rfl (by simp [t0, t4, a0, a1, a2, r0, r1, r2, w1, w2, w3, w4, w5, asV, cviV, fillV, setAll, V.cells, V.one]) ?_
  refine vLs_q (v := .int .u8 ((IntKind.u8.wrap ((b1.toNat : Int) / 6)).tmod 6)) rfl (by simp [t0, t4, a0, a1, a2, r0, r1, r2, w1, w2, w3, w4, w5, asV, cviV, fillV, setAll, V.cells, V.one]) ?_
  refine vLs_q (v := v) rfl (by simp [t0, t4, a0, a1, a2, r0, r1, r2, w1, w2, w3, w4, w5, asV, cviV, fillV, setAll, V.cells, V.one]) ?_
  refine vLs_q (v := .int .i64 (3 * (i : Int))) rfl (by simp [t0, t4, a0, a1, a2, r0, r1, r2, w1, w2, w3, w4, w5, asV, cviV, fillV, setAll, V.cells, V.one]) ?_
  refine vLs_q (v := .int .i64 (3 * (i : Int) + 2)) rfl (by simp [t0, t4, a0, a1, a2, r0, r1, r2, w1, w2, w3, w4, w5, asV, cviV, fillV, setAll, V.cells, V.one]) ?_
  refine vLs_q (v := .fp [.int .u8 b2.toNat] 0) rfl (by simp [t0, t4, a0, a1, a2, r0, r1, r2, w1, w2, w3, w4, w5, asV, cviV, fillV, setAll, V.cells, V.one]) ?_
  refine vLs_q (v := .int .u8 b2.toNat) rfl (by simp [t0, t4, a0, a1, a2, r0, r1, r2, w1, w2, w3, w4, w5, asV, cviV, fillV, setAll, V.cells, V.one]) ?_
  refine vLs_q (v := .int .u64 b2.toNat) rfl (by simp [t0, t4, a0, a1, a2, r0, r1, r2, w1, w2, w3, w4, w5, asV, cviV, fillV, setAll, V.cells, V.one]) ?_
  refine vLs_q (v := .agg [.int .i64 ((b0.toNat : Int).tmod 12 + 1), .int .u8 ((b1.toNat : Int).tmod 6), .int .u8 ((IntKind.u8.wrap ((b1.toNat : Int) / 6)).tmod 6), .int .u64 b2.toNat, .str []]) rfl (by simp [t0, t4, a0, a1, a2, r0, r1, r2, w1, w2, w3, w4, w5, asV, cviV, fillV, setAll, V.cells, V.one]) ?_
  refine vLs_s (b := ⟨none, .store 5 (.t 5) (.t 44), none⟩) rfl ?_
  rw [tellR]
  have hst : ∀ a b c d e : V, a.one = true → b.one = true → c.one = true → d.one = true → e.one = true → stV (h ++ [some (.cells [.int .i64 0, .int .u8 0, .int .u8 0, .int .u64 0, .str []] none)]) 5 (.ptr h.length 0) (.agg [a, b, c, d, e]) = some (.skip (h ++ [some (.cells [a, b, c, d, e] none)])) := fun a b c d e h1 h2 h3 h4 h5 => by
    simp only [stV, V.cells, wr, hget_new]
    rw [if_pos ⟨rfl, by simp [h1, h2, h3, h4, h5]⟩]
    simp [setAll]
  have hs1 := hst (.int .i64 ((b0.toNat : Int).tmod 12 + 1)) (.int .u8 ((b1.toNat : Int).tmod 6)) (.int .u8 ((IntKind.u8.wrap ((b1.toNat : Int) / 6)).tmod 6)) (.int .u64 b2.toNat) (.str []) rfl rfl rfl rfl rfl
  rw [vop_plain]
  simp [hs1]
  exact ⟨trivial, hQ _ (by simp) (by simp) (by simp) (by simp)⟩
end Go.Proofs.YtbabpibaccngnaaGreat
