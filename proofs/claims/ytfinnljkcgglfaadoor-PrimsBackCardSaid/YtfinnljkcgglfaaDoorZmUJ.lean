/- PrimsBack: its code in pieces, and its last region. -/
import Derived.Test.YtfinnljkcgglfaaDoorZmMJ
import Derived.Test.YtfinnljkcgglfaaDoorZmQJ
set_option linter.unusedSimpArgs false
set_option linter.unusedVariables false
namespace Go.Proofs.YtfinnljkcgglfaaDoor
open Go Go.Vs Go.RowKit
set_option maxRecDepth 100000
set_option linter.unusedSimpArgs false
set_option linter.unusedVariables false
attribute [local simp] unV extV wanted strBin vpt vpn vmp nilV_ptr vic vsn

def Z5 : C := (.seq (.reg [⟨some 163, .mov (.t 17), none⟩,
 ⟨some 164, .bin .eql .num (.t 163) (.k (.int .i64 5)), none⟩,
 ⟨some 4, .mov (.t 164), none⟩])
 .ret)
def Y5 : C := (.seq (.dreg [⟨some 148, .mov (.t 11), none⟩,
 ⟨some 149, .fad 0 (.t 2), none⟩,
 ⟨some 150, .load 1 false (.t 149), none⟩,
 ⟨some 151, .fad 2 (.t 2), none⟩,
 ⟨some 152, .load 1 false (.t 151), none⟩,
 ⟨some 153, .fad 3 (.t 2), none⟩,
 ⟨some 154, .load 1 false (.t 153), none⟩,
 ⟨some 155, .mov (.t 11), none⟩,
 ⟨some 156, .inv (.t 155) "Hash" [(.k (.str [110, 111])), (.k (.str [98, 111, 120]))], none⟩,
 ⟨some 157, .mkf (.method "Open") [(.t 148)] [], none⟩,
 ⟨some 158, .nilck (.t 157), none⟩,
 ⟨some 159, .mov (.t 148), none⟩,
 ⟨some 160, .inv (.t 159) "Open" [(.t 150), (.t 152), (.t 154), (.t 156)], none⟩,
 ⟨some 147, .mov (.t 160), none⟩,
 ⟨some 161, .ext (.t 147) 0, none⟩,
 ⟨some 162, .ext (.t 147) 1, none⟩,
 ⟨some 16, .mov (.t 161), none⟩,
 ⟨some 17, .mov (.t 162), none⟩] (.lin [] [(0, none), (1, none), (2, none), (3, none), (4, none), (5, none), (6, none), (7, none), (9, none), (10, none), (11, none), (8, some [0, 1, 2, 3, 4, 5, 6, 9, 10, 11]), (12, some []), (13, none), (14, none), (15, none), (16, none), (17, none)]))
 Z5)
def X5 : C := (.seq (.seq (.reg [⟨some 122, .mov (.t 14), none⟩,
 ⟨some 123, .bin .eql .num (.t 122) (.k (.int .i64 0)), none⟩,
 ⟨some 124, .mov (.t 15), none⟩,
 ⟨some 125, .bin .neq .bool (.t 123) (.t 124), none⟩,
 ⟨some 126, .mov (.t 125), none⟩,
 ⟨some 127, .mov (.t 15), some (126, false)⟩,
 ⟨some 128, .mov (.t 127), some (126, false)⟩,
 ⟨some 129, .mov (.t 13), some (128, true)⟩,
 ⟨some 130, .fad 4 (.t 2), some (128, true)⟩,
 ⟨some 131, .load 1 false (.t 130), some (128, true)⟩,
 ⟨some 132, .bin .neq .str (.t 129) (.t 131), some (128, true)⟩,
 ⟨some 133, .pick (.t 128) (.t 132) (.k (.bool false)), some (126, false)⟩,
 ⟨some 134, .pick (.t 126) (.k (.bool true)) (.t 133), none⟩,
 ⟨some 135, .mov (.t 134), none⟩,
 ⟨some 136, .mov (.t 15), some (135, false)⟩,
 ⟨some 137, .un .not (.t 136), some (135, false)⟩,
 ⟨some 138, .mov (.t 137), some (135, false)⟩,
 ⟨some 139, .mov (.t 13), some (138, true)⟩,
 ⟨some 140, .bin .neq .str (.t 139) (.k (.str [])), some (138, true)⟩,
 ⟨some 141, .mov (.t 140), some (138, true)⟩,
 ⟨some 142, .mov (.t 14), some (141, false)⟩,
 ⟨some 143, .bin .neq .num (.t 142) (.k (.int .i64 5)), some (141, false)⟩,
 ⟨some 144, .pick (.t 141) (.k (.bool true)) (.t 143), some (138, true)⟩,
 ⟨some 145, .pick (.t 138) (.t 144) (.k (.bool false)), some (135, false)⟩,
 ⟨some 146, .pick (.t 135) (.k (.bool true)) (.t 145), none⟩])
 (.cond (.t 146)
 (.seq (.reg [⟨some 4, .mov (.k (.bool false)), none⟩])
 .ret)
 .skip))
 Y5)
def W5 : C := (.seq (.reg [⟨some 103, .fad 0 (.t 2), none⟩,
 ⟨some 104, .load 1 false (.t 103), none⟩,
 ⟨some 105, .fad 0 (.t 3), none⟩,
 ⟨some 106, .load 1 false (.t 105), none⟩,
 ⟨some 107, .bin .eql .str (.t 104) (.t 106), none⟩,
 ⟨some 108, .mov (.t 107), none⟩,
 ⟨some 109, .fad 2 (.t 2), some (108, true)⟩,
 ⟨some 110, .load 1 false (.t 109), some (108, true)⟩,
 ⟨some 111, .fad 2 (.t 3), some (108, true)⟩,
 ⟨some 112, .load 1 false (.t 111), some (108, true)⟩,
 ⟨some 113, .bin .eql .num (.t 110) (.t 112), some (108, true)⟩,
 ⟨some 114, .pick (.t 108) (.t 113) (.k (.bool false)), none⟩,
 ⟨some 115, .mov (.t 114), none⟩,
 ⟨some 116, .fad 3 (.t 2), some (115, true)⟩,
 ⟨some 117, .load 1 false (.t 116), some (115, true)⟩,
 ⟨some 118, .fad 3 (.t 3), some (115, true)⟩,
 ⟨some 119, .load 1 false (.t 118), some (115, true)⟩,
 ⟨some 120, .bin .eql .str (.t 117) (.t 119), some (115, true)⟩,
 ⟨some 121, .pick (.t 115) (.t 120) (.k (.bool false)), none⟩,
 ⟨some 15, .mov (.t 121), none⟩])
 X5)
def V5 : C := (.seq (.reg [⟨some 92, .mov (.t 11), none⟩,
 ⟨some 93, .fad 0 (.t 3), none⟩,
 ⟨some 94, .load 1 false (.t 93), none⟩,
 ⟨some 95, .fad 2 (.t 3), none⟩,
 ⟨some 96, .load 1 false (.t 95), none⟩,
 ⟨some 97, .fad 3 (.t 3), none⟩,
 ⟨some 98, .load 1 false (.t 97), none⟩,
 ⟨some 99, .mov (.t 12), none⟩,
 ⟨some 100, .inv (.t 92) "Open" [(.t 94), (.t 96), (.t 98), (.t 99)], none⟩,
 ⟨some 91, .mov (.t 100), none⟩,
 ⟨some 101, .ext (.t 91) 0, none⟩,
 ⟨some 102, .ext (.t 91) 1, none⟩,
 ⟨some 13, .mov (.t 101), none⟩,
 ⟨some 14, .mov (.t 102), none⟩])
 W5)
def U5 : C := (.seq (.reg [⟨some 81, .mov (.t 11), none⟩,
 ⟨some 82, .fad 0 (.t 2), none⟩,
 ⟨some 83, .load 1 false (.t 82), none⟩,
 ⟨some 84, .fad 2 (.t 2), none⟩,
 ⟨some 85, .load 1 false (.t 84), none⟩,
 ⟨some 86, .fad 3 (.t 2), none⟩,
 ⟨some 87, .load 1 false (.t 86), none⟩,
 ⟨some 88, .fad 4 (.t 2), none⟩,
 ⟨some 89, .load 1 false (.t 88), none⟩,
 ⟨some 90, .inv (.t 81) "Seal" [(.t 83), (.t 85), (.t 87), (.t 89)], none⟩,
 ⟨some 12, .mov (.t 90), none⟩])
 V5)
def T5 : C := (.seq (.reg [⟨some 79, .call (.k (.fn (.func 9) [] [])) [], none⟩,
 ⟨some 80, .call (.k (.fn (.func 8) [] [])) [(.t 79)], none⟩,
 ⟨some 11, .mov (.t 80), none⟩])
 U5)
def Q5 : C := (.seq (.reg [⟨some 66, .mov (.t 8), none⟩,
 ⟨some 67, .bin .eql .str (.t 66) (.k (.str [])), none⟩,
 ⟨some 68, .mov (.t 67), none⟩,
 ⟨some 69, .mov (.t 9), some (68, false)⟩,
 ⟨some 70, .fad 4 (.t 2), some (68, false)⟩,
 ⟨some 71, .load 1 false (.t 70), some (68, false)⟩,
 ⟨some 72, .bin .neq .str (.t 69) (.t 71), some (68, false)⟩,
 ⟨some 73, .pick (.t 68) (.k (.bool true)) (.t 72), none⟩,
 ⟨some 74, .mov (.t 73), none⟩,
 ⟨some 75, .mov (.t 10), some (74, false)⟩,
 ⟨some 76, .bin .neq .num (.t 75) (.k (.int .i64 0)), some (74, false)⟩,
 ⟨some 77, .pick (.t 74) (.k (.bool true)) (.t 76), none⟩])
 (.cond (.t 77)
 (.seq (.reg [⟨some 4, .mov (.k (.bool false)), none⟩])
 .ret)
 .skip))
def R5 : C := (.seq (.reg [⟨some 44, .iad 1 (.t 40) (.t 42), none⟩,
 ⟨some 45, .load 1 false (.t 44), none⟩,
 ⟨some 7, .mov (.t 45), none⟩])
 (.seq (.reg [⟨some 46, .mov (.t 7), none⟩,
 ⟨some 47, .mov (.t 5), none⟩,
 ⟨some 48, .fad 2 (.t 2), none⟩,
 ⟨some 49, .load 1 false (.t 48), none⟩,
 ⟨some 50, .fad 3 (.t 2), none⟩,
 ⟨some 51, .load 1 false (.t 50), none⟩,
 ⟨some 52, .fad 4 (.t 2), none⟩,
 ⟨some 53, .load 1 false (.t 52), none⟩,
 ⟨some 54, .inv (.t 46) "Seal" [(.t 47), (.t 49), (.t 51), (.t 53)], none⟩,
 ⟨some 8, .mov (.t 54), none⟩])
 (.seq (.reg [⟨some 56, .mov (.t 7), none⟩,
 ⟨some 57, .mov (.t 5), none⟩,
 ⟨some 58, .fad 2 (.t 2), none⟩,
 ⟨some 59, .load 1 false (.t 58), none⟩,
 ⟨some 60, .fad 3 (.t 2), none⟩,
 ⟨some 61, .load 1 false (.t 60), none⟩,
 ⟨some 62, .mov (.t 8), none⟩,
 ⟨some 63, .inv (.t 56) "Open" [(.t 57), (.t 59), (.t 61), (.t 62)], none⟩,
 ⟨some 55, .mov (.t 63), none⟩,
 ⟨some 64, .ext (.t 55) 0, none⟩,
 ⟨some 65, .ext (.t 55) 1, none⟩,
 ⟨some 9, .mov (.t 64), none⟩,
 ⟨some 10, .mov (.t 65), none⟩])
 Q5)))
def L5 : C := (.seq (.seq (.reg [⟨some 37, .call (.k (.fn (.func 7) [] [])) [], none⟩,
 ⟨some 38, .call (.k (.fn (.func 9) [] [])) [], none⟩,
 ⟨some 39, .call (.k (.fn (.func 8) [] [])) [(.t 38)], none⟩,
 ⟨some 40, .mks true 1 16 false [.nifc, .nifc] 2 [(0, (.t 37)), (1, (.t 39))], none⟩,
 ⟨some 41, .len .slc (.t 40), none⟩,
 ⟨some 42, .mov (.k (.int .i64 0)), none⟩])
 (.block 0
 (.loop
 (.seq (.reg [⟨some 43, .bin .lss .num (.t 42) (.t 41), none⟩])
 (.seq (.cond (.t 43)
 .skip
 (.exit 0))
 (.seq (.block 1
 R5)
 (.reg [⟨some 78, .bin .add .num (.t 42) (.k (.int .i64 1)), none⟩,
 ⟨some 42, .mov (.t 78), none⟩])))))))
 T5)
def D5 : C := (.seq (.dreg [⟨some 31, .fad 0 (.t 2), none⟩,
 ⟨some 32, .load 1 false (.t 31), none⟩,
 ⟨some 33, .mksl 1 1 false [(.int .u8 0)] (.k (.int .i64 32)) (.k (.int .i64 32)), none⟩,
 ⟨some 34, .b2s (.t 33), none⟩,
 ⟨some 35, .bin .add .str (.t 32) (.t 34), none⟩,
 ⟨some 36, .slc true 0 (.t 35) none (some (.k (.int .i64 32))) none, none⟩,
 ⟨some 5, .mov (.t 36), none⟩] (.lin [] [(0, none), (1, none), (2, some [0, 1]), (3, none), (4, none), (5, none), (6, none)]))
 L5)
def F5' : Fun :=
 ⟨165, 2, [.t 4],
 (.seq (.reg [⟨some 2, .box none (.t 0), none⟩,
 ⟨some 3, .box none (.t 1), none⟩,
 ⟨some 4, .mov (.k (.bool false)), none⟩])
 (.seq (.seq (.reg [⟨some 18, .load 5 true (.t 2), none⟩,
 ⟨some 19, .call (.k (.fn (.func 10) [] [])) [(.t 18)], none⟩,
 ⟨some 20, .un .not (.t 19), none⟩,
 ⟨some 21, .mov (.t 20), none⟩,
 ⟨some 22, .load 5 true (.t 3), some (21, false)⟩,
 ⟨some 23, .call (.k (.fn (.func 10) [] [])) [(.t 22)], some (21, false)⟩,
 ⟨some 24, .un .not (.t 23), some (21, false)⟩,
 ⟨some 25, .pick (.t 21) (.k (.bool true)) (.t 24), none⟩,
 ⟨some 26, .mov (.t 25), none⟩,
 ⟨some 27, .call (.k (.fn (.func 6) [] [])) [], some (26, false)⟩,
 ⟨some 28, .un .not (.t 27), some (26, false)⟩,
 ⟨some 29, .pick (.t 26) (.k (.bool true)) (.t 28), none⟩])
 (.cond (.t 29)
 (.seq (.reg [⟨some 30, .call (.k (.fn (.func 6) [] [])) [], none⟩,
 ⟨some 4, .mov (.t 30), none⟩])
 .ret)
 .skip))
 D5))⟩
def F5 : Fun := F5'
theorem F5_eq : F5 = F5' := rfl
theorem ck5 : ckF Tryd.prog 5 F5 = true := by kernel_rfl


def invVV (x : X) (m : String) (args : List V) : V → Option Rz
  | .ifc ty v => match x.M ty m with
    | some (f, none) => some (.call f (v :: args))
    | some (f, some off) => match v with
      | .agg cs => (cs[off]?).map fun c => .call f (c :: args)
      | _ => none
    | none => none
  | _ => none
theorem aop_invV {x : X} {t : Nat → V} {h : Hp} (r : O) (m : String) (args : List O) : aop x t h (.inv r m args) = invVV x m (evs x t args) (r.ev x t) := by
  simp only [aop, invVV]
  generalize r.ev x t = u
  cases u <;> rfl
theorem new_spec (h : Hp) : ACalls DX 9 [] h fun r h' => r = .ret (.ptr (h.length + 2) 0) ∧ h' = h ++ [some (.map []), some (.map []), some (.cells [.map h.length, .map (h.length + 1), .nsl] none)] := by
  refine acall DX.ok ck9 rfl ?_
  simp [F9, aop_mkmV, fillV, setAll, V.cells, V.one]
theorem symbol_spec (b : Nat) (h : Hp) : ACalls DX 8 [.ptr b 0] h fun r h' => r = .ret (.ifc 54 (.agg [.ptr b 0])) ∧ h' = h := by
  refine acall DX.ok ck8 rfl ?_
  simp [F8, fillV, setAll, V.cells, V.one]
def twoV (A B : List UInt8) (N : Nat) (Ad X : List UInt8) : List V := [.str A, .str B, .int .u64 N, .str Ad, .str X]
theorem inv_b (z : List V) (m : String) (f : FuncId) (hm : DX.M 52 m = some (f, none)) (args : List V) : invVV (BX z) m args (.ifc 52 (.agg [])) = some (.call f (.agg [] :: args)) := by
  simp only [invVV, show (BX z).M 52 m = some (f, none) from hm]
theorem sInvB (z : List V) (m : String) (f : FuncId) (o : Nat) (hm : DX.M 54 m = some (f, some o)) (args : List V) {τ : Nat} (ho : o = 0 := by rfl) : invVV (BX z) m args (.ifc 54 (.agg [.ptr τ 0])) = some (.call f (.ptr τ 0 :: args)) := by
  subst ho
  simp only [invVV, show (BX z).M 54 m = some (f, some 0) from hm]
  rfl
theorem sInvNB (z : List V) (m : String) (f : FuncId) (hm : DX.M 54 m = some (f, none)) (args : List V) {τ : Nat} : invVV (BX z) m args (.ifc 54 (.agg [.ptr τ 0])) = some (.call f (.agg [.ptr τ 0] :: args)) := by
  simp only [invVV, show (BX z).M 54 m = some (f, none) from hm]
theorem nilFB (z : List V) (m : String) (h : Hp) (f : FuncId) (o : Option Nat) (t : TypeId) (v : V) (hm : DX.M t m = some (f, o)) (ho : o = none ∨ ∃ k cs, o = some k ∧ v = .agg cs ∧ k < cs.length) : nilV (BX z) h (.fn (.method m) [.ifc t v] []) = some (.val (.fn (.method m) [.ifc t v] []) h) := by
  simp only [nilV]
  have : methNil (BX z) m [.ifc t v] = true := by
    simp only [methNil, show (BX z).M t m = some (f, o) from hm]
    rcases ho with rfl | ⟨k, cs, rfl, rfl, hk⟩
    · rfl
    · simp [hk]
  rw [this]; rfl
theorem mkfV {x : X} {t : Nat → V} {h : Hp} (f : Fn) (a b : List O) : aop x t h (.mkf f a b) = some (.val (.fn f (evs x t a) (evs x t b)) h) := rfl
theorem resV_t4 {t : Nat → V} {h : Hp} {v : V} (e : t 4 = v) : resV [.t 4] t h = some v := by
  subst e; rfl
set_option maxHeartbeats 1000000 in
/-- A digest is no box. -/
theorem back_end {z : List V} {h : Hp} {t : Nat → V} {τ m1 m2 : Nat} {al : V} {ks : List (List UInt8)} {A B Ad X : List UInt8} {N : Nat} {c1 : List V} {Q : Ex → St → Prop} (L : BW h τ m1 m2 al ks (twoV A B N Ad X) c1) (hN : N < 18446744073709551616) (hk : ks.length < 999) (t2 : t 2 = .ptr 0 0) (t11 : t 11 = .ifc 54 (.agg [.ptr τ 0]))
    (hQ : ∀ t' h', t' 4 = .bool true → Q .ret ⟨t', h', []⟩) : vc (BX z) Y5 Q ⟨t, h, []⟩ := by
  have q0 : rd h (.ptr 0 0) 1 = some [.str A] := by simp [rd, L.b0, sub, twoV]
  have q2 : rd h (.ptr 0 2) 1 = some [.int .u64 N] := by simp [rd, L.b0, sub, twoV]
  have q3 : rd h (.ptr 0 3) 1 = some [.str Ad] := by simp [rd, L.b0, sub, twoV]
  have nf := nilFB z "Open" h 107 none 54 (.agg [.ptr τ 0]) rfl (.inl rfl)
  unfold Y5
  simp
  refine vD_lin ?_
  refine vLs_q' (v := .ifc 54 (.agg [.ptr τ 0])) rfl (by simp [t11]) ?_
  refine vLs_q' (v := .ptr 0 0) rfl (by simp [t2, fadV]) ?_
  refine vLs_q' (v := .str A) rfl (by simp [asV, q0, q2, q3]) ?_
  refine vLs_q' (v := .ptr 0 2) rfl (by simp [t2, fadV]) ?_
  refine vLs_q' (v := .int .u64 N) rfl (by simp [asV, q0, q2, q3]) ?_
  refine vLs_q' (v := .ptr 0 3) rfl (by simp [t2, fadV]) ?_
  refine vLs_q' (v := .str Ad) rfl (by simp [asV, q0, q2, q3]) ?_
  refine vLs_q' (v := .ifc 54 (.agg [.ptr τ 0])) rfl (by simp [t11]) ?_
  refine vLs_q' (v := .fn (.method "Open") [(.ifc 54 (.agg [.ptr τ 0]))] []) rfl (by simp [mkfV]) ?_
  refine vLs_q' (v := .fn (.method "Open") [(.ifc 54 (.agg [.ptr τ 0]))] []) rfl (by simp [nf]) ?_
  refine vLs_q' (v := .ifc 54 (.agg [.ptr τ 0])) rfl (by simp) ?_
  refine vLs_c rfl (by simp) (by simp [aop_invV, sInvNB z "Hash" 105 rfl] <;> rfl) (((bHash L (a := [110, 111]) (b := [98, 111, 120]) (by decide) (by decide) hk).up (BX.up z)).mono ?_)
  rintro r h2 ⟨al2, rfl, L2⟩
  have p0 : rd h2 (.ptr 0 0) 1 = some [.str A] := by simp [rd, L2.b0, sub, twoV]
  have p2 : rd h2 (.ptr 0 2) 1 = some [.int .u64 N] := by simp [rd, L2.b0, sub, twoV]
  have p3 : rd h2 (.ptr 0 3) 1 = some [.str Ad] := by simp [rd, L2.b0, sub, twoV]
  have nf2 := nilFB z "Open" h2 107 none 54 (.agg [.ptr τ 0]) rfl (.inl rfl)
  have hg := putT_get ks (hsK [110, 111] [98, 111, 120])
  have hrb : readB (hsK [110, 111] [98, 111, 120]) = some (4, [[104, 97, 115, 104], [110, 111], [98, 111, 120]]) := readB_joinB (by simp) (by simp) (by simp [joinB, part])
  refine ⟨_, rfl, reL_q rfl (by simp [t11]) <| reL_q rfl (by simp [t2, fadV]) <| reL_q rfl (by simp [asV, p0, p2, p3]) <| reL_q rfl (by simp [t2, fadV]) <| reL_q rfl (by simp [asV, p0, p2, p3]) <| reL_q rfl (by simp [t2, fadV]) <| reL_q rfl (by simp [asV, p0, p2, p3]) <| reL_q rfl (by simp [mkfV]) <| reL_q rfl (by simp [nf2]) <| reL_q rfl (by simp) <| reL_nil _ _ _, ?_⟩
  refine vLs_c rfl (by simp) (by simp [aop_invV, sInvNB z "Open" 107 rfl] <;> rfl) (((symOpen4 L2.tab (a := A) (ad := Ad) hN hg hrb).up (BX.up z)).mono ?_)
  rintro r h3 ⟨rfl, rfl⟩
  refine ⟨_, rfl, reL_nil _ _ _, ?_⟩
  refine vLs_q' (v := .tup [.str [], .int .i64 5]) rfl (by simp) ?_
  refine vLs_q' (v := .str []) rfl (by simp) ?_
  refine vLs_q' (v := .int .i64 5) rfl (by simp) ?_
  refine vLs_q' (v := .str []) rfl (by simp) ?_
  refine vLs_q' (v := .int .i64 5) rfl (by simp) ?_
  simp only [vLs]
  simp [Z5]
  exact hQ _ _ (by simp)
/-! ### the comparisons -/
theorem back_cmp {x : X} {h : Hp} {t : Nat → V} {A B Ad X : List UInt8} {N : Nat} {b : List UInt8} {Q : Ex → St → Prop} (b0 : hget h 0 = some (.cells (twoV A B N Ad X) none)) (t2 : t 2 = .ptr 0 0) (t8 : t 8 = .str b) (hb : b ≠ []) (t9 : t 9 = .str X) (t10 : t 10 = .int .i64 0)
    (hQ : ∀ t', (∀ i, i = 2 ∨ i = 3 ∨ i = 5 ∨ i = 40 ∨ i = 41 ∨ i = 42 → t' i = t i) → Q .normal ⟨t', h, []⟩) : vc x Q5 Q ⟨t, h, []⟩ := by
  have q4 : rd h (.ptr 0 4) 1 = some [.str X] := by simp [rd, b0, sub, twoV]
  simp [Q5, t8, hb, t9, t10, t2, fadV, q4, asV]
  refine hQ _ ?_
  rintro i (rfl | rfl | rfl | rfl | rfl | rfl) <;> simp
/-- The same key, number and ad? -/
theorem back_same {x : X} {h : Hp} {t : Nat → V} {A B Ad X A' B' Ad' X' : List UInt8} {N N' : Nat} {Q : Ex → St → Prop} (b0 : hget h 0 = some (.cells (twoV A B N Ad X) none)) (b1 : hget h 1 = some (.cells (twoV A' B' N' Ad' X') none)) (t2 : t 2 = .ptr 0 0) (t3 : t 3 = .ptr 1 0)
    (hQ : ∀ t', (∀ i, i = 2 ∨ i = 3 ∨ i = 11 ∨ i = 13 ∨ i = 14 → t' i = t i) → t' 15 = .bool (decide (A = A' ∧ N = N' ∧ Ad = Ad')) → vc x X5 Q ⟨t', h, []⟩) : vc x W5 Q ⟨t, h, []⟩ := by
  have q0 : rd h (.ptr 0 0) 1 = some [.str A] := by simp [rd, b0, sub, twoV]
  have q2 : rd h (.ptr 0 2) 1 = some [.int .u64 N] := by simp [rd, b0, sub, twoV]
  have q3 : rd h (.ptr 0 3) 1 = some [.str Ad] := by simp [rd, b0, sub, twoV]
  have p0 : rd h (.ptr 1 0) 1 = some [.str A'] := by simp [rd, b1, sub, twoV]
  have p2 : rd h (.ptr 1 2) 1 = some [.int .u64 N'] := by simp [rd, b1, sub, twoV]
  have p3 : rd h (.ptr 1 3) 1 = some [.str Ad'] := by simp [rd, b1, sub, twoV]
  by_cases hA : A = A'
  · by_cases hN : N = N'
    · by_cases hD : Ad = Ad'
      · subst hA hN hD
        simp [W5, t2, t3, fadV, q0, q2, q3, p0, p2, p3, asV]
        refine hQ _ ?_ (by simp)
        rintro i (rfl | rfl | rfl | rfl | rfl) <;> simp
      · subst hA hN
        simp [W5, t2, t3, fadV, q0, q2, q3, p0, p2, p3, asV, hD]
        refine hQ _ ?_ (by simp [hD])
        rintro i (rfl | rfl | rfl | rfl | rfl) <;> simp
    · subst hA
      have hN' : ¬ (N : Int) = (N' : Int) := by omega
      simp [W5, t2, t3, fadV, q0, q2, q3, p0, p2, p3, asV, hN']
      refine hQ _ ?_ (by simp [hN])
      rintro i (rfl | rfl | rfl | rfl | rfl) <;> simp
  · simp [W5, t2, t3, fadV, q0, q2, q3, p0, p2, p3, asV, hA]
    refine hQ _ ?_ (by simp [hA])
    rintro i (rfl | rfl | rfl | rfl | rfl) <;> simp
theorem vblT : veq Vs.Q.bool (V.bool true) (V.bool true) = some true := rfl
theorem vblF : veq Vs.Q.bool (V.bool false) (V.bool false) = some true := rfl
/-- What was opened is right. -/
theorem back_right {x : X} {h : Hp} {t : Nat → V} {A B Ad X : List UInt8} {N : Nat} {s : Bool} {Q : Ex → St → Prop} (b0 : hget h 0 = some (.cells (twoV A B N Ad X) none)) (t2 : t 2 = .ptr 0 0) (t13 : t 13 = .str (if s = true then X else [])) (t14 : t 14 = .int .i64 (if s = true then 0 else 5)) (t15 : t 15 = .bool s)
    (hQ : ∀ t', (∀ i, i = 2 ∨ i = 3 ∨ i = 11 → t' i = t i) → vc x Y5 Q ⟨t', h, []⟩) : vc x X5 Q ⟨t, h, []⟩ := by
  have q4 : rd h (.ptr 0 4) 1 = some [.str X] := by simp [rd, b0, sub, twoV]
  cases s with
  | true =>
    simp at t13 t14
    simp [X5, t2, t13, t14, t15, fadV, q4, asV, vblT, vblF]
    refine hQ _ ?_
    rintro i (rfl | rfl | rfl) <;> simp
  | false =>
    simp at t13 t14
    simp [X5, t2, t13, t14, t15, fadV, q4, asV, vblT, vblF]
    refine hQ _ ?_
    rintro i (rfl | rfl | rfl) <;> simp
end Go.Proofs.YtfinnljkcgglfaaDoor
namespace Go.Proofs.YtfinnljkcgglfaaDoor
open Go Go.Vs Go.RowKit
set_option maxRecDepth 100000
set_option linter.unusedSimpArgs false
set_option linter.unusedVariables false
attribute [local simp] unV extV wanted strBin vpt vpn vmp nilV_ptr vic vsn

theorem vLs_v {x : X} {ops : List A} {Q : Ex → St → Prop} {i : Nat} {re : List Nat} {r : List (Nat × Option (List Nat))} {t : Nat → V} {h h' : Hp} {d : Option Nat} {ins : I} {v : V} (hn : nth ops i = some ⟨d, ins, none⟩) (ha : aop x t h ins = some (.val v h'))
    (h1 : reL x ops re ⟨put t d v, h', []⟩) (h2 : vLs x ops [] Q r ⟨put t d v, h', []⟩) : vLs x ops [] Q ((i, some re) :: r) ⟨t, h, []⟩ := by
  simp only [vLs, hn]
  rw [show nd ops [] i = [] from rfl]
  simp only [tell, vop, wanted, if_pos, ha]
  exact ⟨h1, h2⟩
theorem b2s_sl {h : Hp} {b : Nat} {c : List V} {ty : Option TypeId} (hg : hget h b = some (.cells c ty)) (hc : isK .u8 32 c = true) : b2sV h (.sl b 0 32 32 true 1 false) = some (.str (strC c)) := by
  have h1 : src h 1 (.sl b 0 32 32 true 1 false) = some (32, c) := by
    simp only [src, Nat.mul_one]; rw [if_pos trivial, rd_allc hg (isK_len hc)]; rfl
  simp only [b2sV, V.isStr, h1]
  rw [if_neg (by decide), if_pos (fun v hv => by obtain ⟨n, rfl⟩ := isK_all hc v hv; rfl)]
  rfl
def zS : List UInt8 := strC (CK .u8 32 (fun _ => 0))
theorem zS_len : zS.length = 32 := by simp [zS, strC, CK_len]
/-- The key: with zeros behind. -/
def kS (A : List UInt8) : List UInt8 := (A ++ zS).take 32
theorem kS_len (A : List UInt8) : (kS A).length = 32 := by simp [kS, zS_len]
theorem back_key {x : X} {t : Nat → V} {A B Ad X : List UInt8} {N : Nat} {c1 : List V} {Q : Ex → St → Prop} (la : A.length ≤ 1000) (t2 : t 2 = .ptr 0 0)
    (hQ : ∀ t', (∀ i, i = 2 ∨ i = 3 → t' i = t i) → t' 5 = .str (kS A) → vc x L5 Q ⟨t', [some (.cells (twoV A B N Ad X) none), some (.cells c1 none), some (.cells (CK .u8 32 (fun _ => 0)) none)], []⟩) : vc x D5 Q ⟨t, [some (.cells (twoV A B N Ad X) none), some (.cells c1 none)], []⟩ := by
  obtain ⟨H, hH⟩ : ∃ H : Hp, H = [some (.cells (twoV A B N Ad X) none), some (.cells c1 none)] := ⟨_, rfl⟩
  have q0 : rd H (.ptr 0 0) 1 = some [.str A] := by rw [hH]; rfl
  have p0 : rd (H ++ [some (.cells (CK .u8 32 (fun _ => 0)) none)]) (.ptr 0 0) 1 = some [.str A] := by rw [hH]; rfl
  have hl : H.length = 2 := by rw [hH]; rfl
  have hm := mksl_n (h := H) (n := 32) (by omega)
  have hb : b2sV (H ++ [some (.cells (CK .u8 32 (fun _ => 0)) none)]) (.sl H.length 0 32 32 true 1 false) = some (.str zS) := b2s_sl (c := CK .u8 32 (fun _ => 0)) (hget_new H _) (CK_is ..)
  have hr : A.length + zS.length ≤ room := by rw [zS_len]; unfold room; omega
  have hs : slcV 0 (.str (A ++ zS)) 0 (some 32) none = some (.str (kS A)) := by
    simp only [slcV, Option.getD_some]
    rw [if_pos (by simp [zS_len])]
    rfl
  rw [← hH]
  unfold D5
  simp
  refine vD_lin ?_
  refine vLs_q' (v := .ptr 0 0) rfl (by simp [t2, fadV]) ?_
  refine vLs_q' (v := .str A) rfl (by simp [q0, asV]) ?_
  refine vLs_v (v := .sl H.length 0 32 32 true 1 false) (h' := H ++ [some (.cells (CK .u8 32 (fun _ => 0)) none)]) rfl (by simp only [aop_mkslV]; simpa using hm) (reL_q rfl (by simp [t2, fadV]) <| reL_q rfl (by simp [p0, asV]) <| reL_nil _ _ _) ?_
  refine vLs_q' (v := .str zS) rfl (by simp [hb]) ?_
  refine vLs_q' (v := .str (A ++ zS)) rfl (by simp [hr]) ?_
  refine vLs_q' (v := .str (kS A)) rfl (by simp [hs, V.isStr]) ?_
  refine vLs_q' (v := .str (kS A)) rfl (by simp) ?_
  simp only [vLs]
  simp
  rw [hH]
  exact hQ _ (by rintro i (rfl | rfl) <;> simp) (by simp)
theorem realArgs (s ad x : List UInt8) (n : Int) : ∀ v ∈ [V.agg [], .str s, .int .u64 n, .str ad, .str x], Low 0 v := fun v hv => by
  simp at hv; rcases hv with rfl | rfl | rfl | rfl | rfl
  · exact .agg _ (by simp)
  · exact .str _
  · exact .int _ _
  · exact .str _
  · exact .str _
/-- A round of those of bytes. -/
theorem round_r {z : List V} {h : Hp} {t : Nat → V} {A B Ad X : List UInt8} {N : Nat} {sv : V} {Q : Ex → St → Prop} (b0 : hget h 0 = some (.cells (twoV A B N Ad X) none)) (lad : Ad.length ≤ 1000) (lx : X.length ≤ 1000) (t2 : t 2 = .ptr 0 0) (t5 : t 5 = .str (kS A)) (t40 : t 40 = .lst true [.ifc 52 (.agg []), sv]) (t42 : t 42 = .int .i64 0)
    (hQ : ∀ t', (∀ i, i = 2 ∨ i = 3 ∨ i = 5 ∨ i = 40 ∨ i = 41 ∨ i = 42 → t' i = t i) → Q .normal ⟨t', h, []⟩) : vc (BX z) R5 Q ⟨t, h, []⟩ := by
  have q2 : rd h (.ptr 0 2) 1 = some [.int .u64 N] := by simp [rd, b0, sub, twoV]
  have q3 : rd h (.ptr 0 3) 1 = some [.str Ad] := by simp [rd, b0, sub, twoV]
  have q4 : rd h (.ptr 0 4) 1 = some [.str X] := by simp [rd, b0, sub, twoV]
  have ia : iadV 1 (.lst true [.ifc 52 (.agg []), sv]) (.int .i64 0) = some (.fp [.ifc 52 (.agg [])] 0) := by simp [iadV, V.cells]
  have hk := kS_len A
  have hl := real_some (z := z) (n := (N : Int)) hk (show Ad.length ≤ 60000 by omega) (show X.length ≤ 60000 by omega)
  simp [R5, t40, t42, ia, rd_fp1, asV, t2, t5, fadV, q2, q3, q4]
  simp [aop_invV, inv_b z "Seal" 79 rfl]
  refine (PCalls.at (BX.low z) (realSeal (z := z) (s := kS A) (n := (N : Int)) (by omega) (by omega)) (realArgs _ _ _ _) h).mono ?_
  rintro r h' ⟨rfl, hh⟩
  rw [hh]; clear hh h'
  simp [t40, t42, ia, rd_fp1, asV, t2, t5, fadV, q2, q3, q4]
  simp [aop_invV, inv_b z "Open" 77 rfl]
  refine (PCalls.at (BX.low z) (realOpen (z := z) (s := kS A) (n := (N : Int)) (by omega) (by omega)) (realArgs _ _ _ _) h).mono ?_
  rintro r h' ⟨rfl, hh⟩
  rw [hh]; clear hh h'
  rw [real_back hk (by omega) (by omega)]
  simp
  refine back_cmp (b := rSeal z (kS A) N Ad X) (X := X) b0 (by simp [t2]) (by simp) (fun e => by rw [e] at hl; simp at hl) (by simp) (by simp) fun t' hT => hQ _ ?_
  rintro i (rfl | rfl | rfl | rfl | rfl | rfl) <;> rw [hT _ (by omega)] <;> simp
/-- A round of those of terms. -/
theorem round_s {z : List V} {h : Hp} {t : Nat → V} {τ m1 m2 : Nat} {al : V} {ks : List (List UInt8)} {A B Ad X : List UInt8} {N : Nat} {c1 : List V} {sv : V} {Q : Ex → St → Prop} (L : BW h τ m1 m2 al ks (twoV A B N Ad X) c1) (hN : N < 18446744073709551616) (hks : ks.length < 999) (lad : Ad.length ≤ 1000) (lx : X.length ≤ 1000) (t2 : t 2 = .ptr 0 0) (t5 : t 5 = .str (kS A)) (t40 : t 40 = .lst true [sv, .ifc 54 (.agg [.ptr τ 0])]) (t42 : t 42 = .int .i64 1) (hsv : sv.cells.length = 1)
    (hQ : ∀ t' h', (∀ i, i = 2 ∨ i = 3 ∨ i = 5 ∨ i = 40 ∨ i = 41 ∨ i = 42 → t' i = t i) → hget h' 0 = some (.cells (twoV A B N Ad X) none) → hget h' 1 = some (.cells c1 none) → Q .normal ⟨t', h', []⟩) : vc (BX z) R5 Q ⟨t, h, []⟩ := by
  have q2 : rd h (.ptr 0 2) 1 = some [.int .u64 N] := by simp [rd, L.b0, sub, twoV]
  have q3 : rd h (.ptr 0 3) 1 = some [.str Ad] := by simp [rd, L.b0, sub, twoV]
  have q4 : rd h (.ptr 0 4) 1 = some [.str X] := by simp [rd, L.b0, sub, twoV]
  have ia : iadV 1 (.lst true [sv, .ifc 54 (.agg [.ptr τ 0])]) (.int .i64 1) = some (.fp [.ifc 54 (.agg [.ptr τ 0])] 0) := by simp [iadV, V.cells]
  have hk := kS_len A
  simp [R5, t40, t42, ia, rd_fp1, asV, t2, t5, fadV, q2, q3, q4]
  simp [aop_invV, sInvB z "Seal" 54 0 rfl]
  refine ((bSeal L (a := kS A) (b := Ad) (c := X) hN (by omega) (by omega) (by omega) hks).up (BX.up z)).mono ?_
  rintro r h2 ⟨al2, rfl, L2⟩
  have p2 : rd h2 (.ptr 0 2) 1 = some [.int .u64 N] := by simp [rd, L2.b0, sub, twoV]
  have p3 : rd h2 (.ptr 0 3) 1 = some [.str Ad] := by simp [rd, L2.b0, sub, twoV]
  have hl := numB_len 8 (n := N) (by simpa using hN)
  have hg := putT_get ks (joinB 5 [kS A, numB N, Ad, X])
  have hr : readB (joinB 5 [kS A, numB N, Ad, X]) = some (5, [kS A, numB N, Ad, X]) := readB_joinB (by simp) (by simp; omega) (by simp [joinB, part]; omega)
  simp [asV, t2, t5, fadV, p2, p3]
  simp [aop_invV, sInvNB z "Open" 107 rfl]
  refine ((symOpen5 L2.tab (a := kS A) (ad := Ad) hN hg hr).up (BX.up z)).mono ?_
  rintro r h3 ⟨rfl, rfl⟩
  have L3 : BW (h2 ++ [some (.cells [.ptr τ 0] none)]) τ m1 m2 al2 (putT ks (joinB 5 [kS A, numB N, Ad, X])) (twoV A B N Ad X) c1 := L2.keep fun c hc => hget_old hc _
  simp
  refine back_cmp (b := nameB (putN ks (joinB 5 [kS A, numB N, Ad, X]) + 1)) (X := X) L3.b0 (by simp [t2]) (by simp) (fun e => by simp [nameB] at e) (by simp) (by simp) fun t' hT => hQ _ _ ?_ L3.b0 L3.b1
  rintro i (rfl | rfl | rfl | rfl | rfl | rfl) <;> rw [hT _ (by omega)] <;> simp
end Go.Proofs.YtfinnljkcgglfaaDoor
namespace Go.Proofs.YtfinnljkcgglfaaDoor
open Go Go.Vs Go.RowKit
set_option maxRecDepth 100000
set_option linter.unusedSimpArgs false
set_option linter.unusedVariables false
attribute [local simp] unV extV wanted strBin vpt vpn vmp nilV_ptr vic vsn

theorem few_spec (A B : List UInt8) (N : Nat) (Ad X : List UInt8) : PCalls DX 10 [.agg (twoV A B N Ad X)] fun r => r = .ret (.bool (decide (A.length ≤ 1000 ∧ B.length ≤ 1000 ∧ Ad.length ≤ 1000 ∧ X.length ≤ 1000))) := by
  refine PCalls.of (acall DX.ok ck10 rfl ?_) fun r hr => by subst hr; exact .bool _
  have q : ∀ o, rd [some (.cells [.str A, .str B, .int .u64 N, .str Ad, .str X] none)] (.ptr 0 o) 1 = sub [.str A, .str B, .int .u64 N, .str Ad, .str X] o 1 := fun o => by simp [rd, hget]
  simp [F10, twoV, V.cells, V.one, fadV, q, sub, asV, lenV]
  by_cases h1 : A.length ≤ 1000
  · have h1' : (A.length : Int) ≤ 1000 := by omega
    by_cases h2 : B.length ≤ 1000
    · have h2' : (B.length : Int) ≤ 1000 := by omega
      by_cases h3 : Ad.length ≤ 1000
      · have h3' : (Ad.length : Int) ≤ 1000 := by omega
        by_cases h4 : X.length ≤ 1000
        · have h4' : (X.length : Int) ≤ 1000 := by omega
          simp [h1, h1', h2, h2', h3, h3', h4, h4', fadV, q, sub, asV, lenV]
        · have h4' : ¬ (X.length : Int) ≤ 1000 := by omega
          simp [h1, h1', h2, h2', h3, h3', h4, h4', fadV, q, sub, asV, lenV]
      · have h3' : ¬ (Ad.length : Int) ≤ 1000 := by omega
        simp [h1, h1', h2, h2', h3, h3', fadV, q, sub, asV, lenV]
    · have h2' : ¬ (B.length : Int) ≤ 1000 := by omega
      simp [h1, h1', h2, h2', fadV, q, sub, asV, lenV]
  · have h1' : ¬ (A.length : Int) ≤ 1000 := by omega
    simp [h1, h1', fadV, q, sub, asV, lenV]
theorem twoV_low (A B : List UInt8) (N : Nat) (Ad X : List UInt8) : ∀ v ∈ [V.agg (twoV A B N Ad X)], Low 0 v := fun v hv => by
  simp at hv; subst hv; exact .agg _ (by simp [twoV]; exact ⟨.str _, .str _, .int _ _, .str _, .str _⟩)
/-- Of terms: with no other key, number or ad. -/
theorem back_tail {z : List V} {h : Hp} {t : Nat → V} {A B Ad X A' B' Ad' X' : List UInt8} {N N' : Nat} {Q : Ex → St → Prop} (b0 : hget h 0 = some (.cells (twoV A B N Ad X) none)) (b1 : hget h 1 = some (.cells (twoV A' B' N' Ad' X') none)) (hN : N < 18446744073709551616) (hN' : N' < 18446744073709551616)
    (la : A.length ≤ 1000) (lad : Ad.length ≤ 1000) (lx : X.length ≤ 1000) (t2 : t 2 = .ptr 0 0) (t3 : t 3 = .ptr 1 0) (hQ : ∀ t' h', t' 4 = .bool true → Q .ret ⟨t', h', []⟩) : vc (BX z) T5 Q ⟨t, h, []⟩ := by
  simp [T5]
  refine ((new_spec h).up (BX.up z)).mono ?_
  rintro r h1 ⟨rfl, hh⟩
  have L := BW.new b0 b1
  rw [← hh] at L
  clear hh
  generalize h.length + 2 = τ at L
  generalize h.length = m1 at L
  generalize m1 + 1 = m2 at L
  simp
  refine ((symbol_spec τ h1).up (BX.up z)).mono ?_
  rintro r h' ⟨rfl, hh⟩
  rw [hh]; clear hh h'
  have q0 : rd h1 (.ptr 0 0) 1 = some [.str A] := by simp [rd, L.b0, sub, twoV]
  have q2 : rd h1 (.ptr 0 2) 1 = some [.int .u64 N] := by simp [rd, L.b0, sub, twoV]
  have q3 : rd h1 (.ptr 0 3) 1 = some [.str Ad] := by simp [rd, L.b0, sub, twoV]
  have q4 : rd h1 (.ptr 0 4) 1 = some [.str X] := by simp [rd, L.b0, sub, twoV]
  simp [U5, t2, t3, fadV, q0, q2, q3, q4, asV]
  simp [aop_invV, sInvB z "Seal" 54 0 rfl]
  refine ((bSeal L (a := A) (b := Ad) (c := X) hN (by omega) (by omega) (by omega) (by simp)).up (BX.up z)).mono ?_
  rintro r h2 ⟨al2, rfl, L2⟩
  have p0 : rd h2 (.ptr 1 0) 1 = some [.str A'] := by simp [rd, L2.b1, sub, twoV]
  have p2 : rd h2 (.ptr 1 2) 1 = some [.int .u64 N'] := by simp [rd, L2.b1, sub, twoV]
  have p3 : rd h2 (.ptr 1 3) 1 = some [.str Ad'] := by simp [rd, L2.b1, sub, twoV]
  have hl := numB_len 8 (n := N) (by simpa using hN)
  have hg := putT_get [] (joinB 5 [A, numB N, Ad, X])
  have hr : readB (joinB 5 [A, numB N, Ad, X]) = some (5, [A, numB N, Ad, X]) := readB_joinB (by simp) (by simp; omega) (by simp [joinB, part]; omega)
  have hlen := putT_len [] (joinB 5 [A, numB N, Ad, X])
  generalize joinB 5 [A, numB N, Ad, X] = K at *
  generalize putN [] K = M at *
  generalize putT [] K = ks at *
  simp [V5, t2, t3, fadV, p0, p2, p3, asV]
  simp [aop_invV, sInvNB z "Open" 107 rfl]
  refine ((symOpen5 L2.tab (a := A') (ad := Ad') hN' hg hr).up (BX.up z)).mono ?_
  rintro r h3 ⟨rfl, rfl⟩
  have L3 : BW (h2 ++ [some (.cells [.ptr τ 0] none)]) τ m1 m2 al2 ks (twoV A B N Ad X) (twoV A' B' N' Ad' X') := L2.keep fun c hc => hget_old hc _
  generalize h2 ++ [some (.cells [.ptr τ 0] none)] = h4 at L3
  simp
  refine back_same L3.b0 L3.b1 (by simp [t2]) (by simp [t3]) fun t5 hT t15 => ?_
  have e2 := hT 2 (by omega)
  have e3 := hT 3 (by omega)
  have e11 := hT 11 (by omega)
  have e13 := hT 13 (by omega)
  have e14 := hT 14 (by omega)
  simp at e2 e3 e11 e13 e14
  refine back_right (s := decide (A = A' ∧ N = N' ∧ Ad = Ad')) L3.b0 (by rw [e2, t2]) (by rw [e13]; simp) (by rw [e14]; simp) t15 fun t6 hT6 => ?_
  refine back_end L3 hN (by simp at hlen; omega) (by rw [hT6 2 (by omega), e2, t2]) (by rw [hT6 11 (by omega), e11]) hQ
def iBk (A B Ad X A' B' Ad' X' : List UInt8) (N N' : Nat) (k : Nat) (st : St) : Prop := ∃ i, k + i = 2 ∧ st.d = [] ∧ st.t 2 = .ptr 0 0 ∧ st.t 3 = .ptr 1 0 ∧ st.t 5 = .str (kS A) ∧ st.t 40 = .lst true [.ifc 52 (.agg []), .ifc 54 (.agg [.ptr 5 0])] ∧ st.t 41 = .int .i64 2 ∧ st.t 42 = .int .i64 (i : Int) ∧
  hget st.h 0 = some (.cells (twoV A B N Ad X) none) ∧ hget st.h 1 = some (.cells (twoV A' B' N' Ad' X') none) ∧ (i ≤ 1 → BW st.h 5 3 4 .nsl [] (twoV A B N Ad X) (twoV A' B' N' Ad' X'))
theorem back_loop {z : List V} {t : Nat → V} {A B Ad X A' B' Ad' X' : List UInt8} {N N' : Nat} {Q : Ex → St → Prop} (hN : N < 18446744073709551616) (hN' : N' < 18446744073709551616)
    (la : A.length ≤ 1000) (lad : Ad.length ≤ 1000) (lx : X.length ≤ 1000) (t2 : t 2 = .ptr 0 0) (t3 : t 3 = .ptr 1 0) (t5 : t 5 = .str (kS A)) (hQ : ∀ t' h', t' 4 = .bool true → Q .ret ⟨t', h', []⟩) : vc (BX z) L5 Q ⟨t, [some (.cells (twoV A B N Ad X) none), some (.cells (twoV A' B' N' Ad' X') none), some (.cells (CK .u8 32 (fun _ => 0)) none)], []⟩ := by
  simp [L5]
  refine (PCalls.at (BX.low z) (real6.up (BX.up z)) (fun a ha => by cases ha) _).mono ?_
  rintro r h' ⟨rfl, rfl⟩
  simp
  refine ((new_spec _).up (BX.up z)).mono ?_
  rintro r h' ⟨rfl, rfl⟩
  simp
  refine ((symbol_spec 5 _).up (BX.up z)).mono ?_
  rintro r h' ⟨rfl, rfl⟩
  have hl2 : ∀ h, lenV h .slc (.lst true [.ifc 52 (.agg []), .ifc 54 (.agg [.ptr 5 0])]) = some (.int .i64 2) := fun h => rfl
  have L0 : BW [some (.cells (twoV A B N Ad X) none), some (.cells (twoV A' B' N' Ad' X') none), some (.cells (CK .u8 32 (fun _ => 0)) none), some (.map []), some (.map []), some (.cells [.map 3, .map 4, .nsl] none)] 5 3 4 .nsl [] (twoV A B N Ad X) (twoV A' B' N' Ad' X') := BW.new (h := [some (.cells (twoV A B N Ad X) none), some (.cells (twoV A' B' N' Ad' X') none), some (.cells (CK .u8 32 (fun _ => 0)) none)]) rfl rfl
  simp [fillV, setAll, V.cells, V.one, chunk, hl2]
  refine vc_loop _ _ _ (iBk A B Ad X A' B' Ad' X' N N') 2 ⟨0, by simp, by simp, by simp [t2], by simp [t3], by simp [t5], by simp, by simp, by simp, L0.b0, L0.b1, fun _ => L0⟩ ?_
  clear t2 t3 t5 L0
  rintro k ⟨t, h, d⟩ ⟨i, hki, hd, t2, t3, t5, t40, t41, t42, b0, b1, hL⟩
  simp only at hd t2 t3 t5 t40 t41 t42 b0 b1 hL
  subst hd
  have hw1 : IntKind.i64.wrap 1 = 1 := rfl
  have hw2 : IntKind.i64.wrap 2 = 2 := rfl
  by_cases hi : i < 2
  · have L := hL (by omega)
    rcases (show i = 0 ∨ i = 1 by omega) with rfl | rfl
    · simp [t41, t42]
      refine round_r (sv := .ifc 54 (.agg [.ptr 5 0])) b0 lad lx (by simp [t2]) (by simp [t5]) (by simp [t40]) (by simp [t42]) fun t' hT => ?_
      have e2 := hT 2 (by omega)
      have e3 := hT 3 (by omega)
      have e5 := hT 5 (by omega)
      have e40 := hT 40 (by omega)
      have e41 := hT 41 (by omega)
      have e42 := hT 42 (by omega)
      simp at e2 e3 e5 e40 e41 e42
      simp [e42, t42, hw1]
      exact ⟨k - 1, by omega, 1, by omega, rfl, by simp [e2, t2], by simp [e3, t3], by simp [e5, t5], by simp [e40, t40], by simp [e41, t41], by simp, b0, b1, fun _ => L⟩
    · simp [t41, t42]
      refine round_s (sv := .ifc 52 (.agg [])) L hN (by simp) lad lx (by simp [t2]) (by simp [t5]) (by simp [t40]) (by simp [t42]) rfl fun t' h' hT c0 c1 => ?_
      have e2 := hT 2 (by omega)
      have e3 := hT 3 (by omega)
      have e5 := hT 5 (by omega)
      have e40 := hT 40 (by omega)
      have e41 := hT 41 (by omega)
      have e42 := hT 42 (by omega)
      simp at e2 e3 e5 e40 e41 e42
      simp [e42, t42, hw2]
      exact ⟨k - 1, by omega, 2, by omega, rfl, by simp [e2, t2], by simp [e3, t3], by simp [e5, t5], by simp [e40, t40], by simp [e41, t41], by simp, c0, c1, fun h => absurd h (by omega)⟩
  · have hi2 : i = 2 := by omega
    subst hi2
    simp [t41, t42]
    exact back_tail b0 b1 hN hN' la lad lx (by simp [t2]) (by simp [t3]) hQ
theorem back_law {z : List V} (A B Ad X A' B' Ad' X' : List UInt8) (N N' : Nat) (hN : N < 18446744073709551616) (hN' : N' < 18446744073709551616) : PCalls (BX z) 5 [.agg (twoV A B N Ad X), .agg (twoV A' B' N' Ad' X')] fun r => r = .ret (.bool true) := by
  refine PCalls.of (acall (BX.ok z) (show ckF (BX z).P 5 F5 = true from ck5) rfl ?_) fun r hr => by subst hr; exact .bool _
  have o1 : ∀ A B N Ad X, (∀ c ∈ twoV A B N Ad X, c.one = true) = True := fun A B N Ad X => eq_true (by simp [twoV, V.one])
  obtain ⟨H, hH⟩ : ∃ H : Hp, H = [some (.cells (twoV A B N Ad X) none), some (.cells (twoV A' B' N' Ad' X') none)] := ⟨_, rfl⟩
  have q0 : rd H (.ptr 0 0) 5 = some (twoV A B N Ad X) := by rw [hH]; rfl
  have q1 : rd H (.ptr 1 0) 5 = some (twoV A' B' N' Ad' X') := by rw [hH]; rfl
  simp only [F5_eq, F5']
  simp [V.cells, o1, ← hH, q0, asV]
  refine (PCalls.at (BX.low z) ((few_spec A B N Ad X).up (BX.up z)) (twoV_low _ _ _ _ _) H).mono ?_
  rintro r h' ⟨rfl, hh⟩
  rw [hh]; clear hh h'
  by_cases hf : A.length ≤ 1000 ∧ B.length ≤ 1000 ∧ Ad.length ≤ 1000 ∧ X.length ≤ 1000
  · simp [hf, q1, asV]
    refine (PCalls.at (BX.low z) ((few_spec A' B' N' Ad' X').up (BX.up z)) (twoV_low _ _ _ _ _) H).mono ?_
    rintro r h' ⟨rfl, hh⟩
    rw [hh]; clear hh h'
    by_cases hg : A'.length ≤ 1000 ∧ B'.length ≤ 1000 ∧ Ad'.length ≤ 1000 ∧ X'.length ≤ 1000
    · simp [hg]
      refine (PCalls.at (BX.low z) (alive11.up (BX.up z)) (fun a ha => by cases ha) H).mono ?_
      rintro r h' ⟨rfl, hh⟩
      rw [hh]; clear hh h'
      simp
      rw [hH]
      refine back_key (by omega) (by simp) fun t' hT t5 => ?_
      refine back_loop hN hN' (by omega) (by omega) (by omega) (by rw [hT 2 (by omega)]; simp) (by rw [hT 3 (by omega)]; simp) t5 fun t' h' t4 => ?_
      exact ⟨rfl, _, resV_t4 t4, rfl⟩
    · simp [hg]
      refine (PCalls.at (BX.low z) (alive11.up (BX.up z)) (fun a ha => by cases ha) H).mono ?_
      rintro r h' ⟨rfl, hh⟩
      rw [hh]; clear hh h'
      simp
  · simp [hf]
    refine (PCalls.at (BX.low z) (alive11.up (BX.up z)) (fun a ha => by cases ha) H).mono ?_
    rintro r h' ⟨rfl, hh⟩
    rw [hh]; clear hh h'
    simp
end Go.Proofs.YtfinnljkcgglfaaDoor
