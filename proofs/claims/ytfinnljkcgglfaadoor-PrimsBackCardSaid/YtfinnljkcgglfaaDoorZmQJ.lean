/- A table of terms in a world with two boxes ahead. -/
import Derived.Test.YtfinnljkcgglfaaDoorZiTabl
import Derived.Test.YtfinnljkcgglfaaDoorZmZ
set_option linter.unusedSimpArgs false
set_option linter.unusedVariables false
namespace Go.Proofs.YtfinnljkcgglfaaDoor
open Go Go.Vs Go.RowKit
set_option maxRecDepth 100000
set_option linter.unusedSimpArgs false
set_option linter.unusedVariables false
attribute [local simp] unV extV wanted strBin vpt vpn vmp nilV_ptr vic vsn

/-- Two boxes ahead, and a table behind. -/
structure BW (h : Hp) (τ m1 m2 : Nat) (al : V) (ks : List (List UInt8)) (c0 c1 : List V) : Prop where
  tab : Tab h τ m1 m2 al ks
  b0 : hget h 0 = some (.cells c0 none)
  b1 : hget h 1 = some (.cells c1 none)
  t2 : 2 ≤ τ
  m2' : 2 ≤ m1
  m3' : 2 ≤ m2
  al2 : ∀ c, al.blk = some c → 2 ≤ c
theorem BW.keep {h h' : Hp} {τ m1 m2 : Nat} {al : V} {ks : List (List UInt8)} {c0 c1 : List V} (L : BW h τ m1 m2 al ks c0 c1) (hk : ∀ c, c < h.length → hget h' c = hget h c) : BW h' τ m1 m2 al ks c0 c1 :=
  ⟨L.tab.keep hk, by rw [hk _ (hget_lt L.b0)]; exact L.b0, by rw [hk _ (hget_lt L.b1)]; exact L.b1, L.t2, L.m2', L.m3', L.al2⟩
theorem BW.put {h : Hp} {τ m1 m2 : Nat} {al : V} {ks : List (List UInt8)} {c0 c1 : List V} (L : BW h τ m1 m2 al ks c0 c1) {k : List UInt8} {r : Res} {h' : Hp} (H : PutR h τ m1 m2 al ks k r h') :
    ∃ al', r = .ret (.str (nameB (putN ks k + 1))) ∧ BW h' τ m1 m2 al' (putT ks k) c0 c1 := by
  obtain ⟨al', rfl, T, R, hb, _⟩ := H
  have l1 := hget_lt L.b1
  have t2 := L.t2
  have m2' := L.m2'
  have m3' := L.m3'
  refine ⟨al', rfl, T, ?_, ?_, t2, m2', m3', fun c hc => ?_⟩
  · rw [R.2 0 (by omega) (by omega) (by omega) (by omega) fun e => by have := L.al2 _ e; omega]; exact L.b0
  · rw [R.2 1 (by omega) (by omega) (by omega) (by omega) fun e => by have := L.al2 _ e; omega]; exact L.b1
  · rcases hb c hc with h | h
    · exact L.al2 c h
    · omega
theorem BW.new {h : Hp} {c0 c1 : List V} (b0 : hget h 0 = some (.cells c0 none)) (b1 : hget h 1 = some (.cells c1 none)) : BW (h ++ [some (.map []), some (.map []), some (.cells [.map h.length, .map (h.length + 1), .nsl] none)]) (h.length + 2) h.length (h.length + 1) .nsl [] c0 c1 := by
  have l1 := hget_lt b1
  have g : ∀ i o, [some (Blk.map []), some (.map []), some (.cells [V.map h.length, .map (h.length + 1), .nsl] none)][i]? = some o → hget (h ++ [some (Blk.map []), some (.map []), some (.cells [V.map h.length, .map (h.length + 1), .nsl] none)]) (h.length + i) = o := fun i o e => by
    unfold hget
    rw [List.getElem?_append_right (by omega), Nat.add_sub_cancel_left, e]
    cases o <;> rfl
  refine ⟨⟨?_, ?_, ?_, ⟨rfl, .inl ⟨rfl, rfl⟩⟩, by omega, by omega, by omega, (fun e => by cases e), (fun e => by cases e), (fun e => by cases e), by simp, fun k hk => by cases hk⟩, ?_, ?_, by omega, by omega, by omega, fun c e => by cases e⟩
  · exact g 2 _ rfl
  · exact g 0 _ rfl
  · exact g 1 _ rfl
  · rw [hget_old (by omega) _]; exact b0
  · rw [hget_old (by omega) _]; exact b1
theorem bSeal {h : Hp} {τ m1 m2 : Nat} {al : V} {ks : List (List UInt8)} {c0 c1 : List V} (L : BW h τ m1 m2 al ks c0 c1) {a b c : List UInt8} {n : Nat} (hn : n < 18446744073709551616) (ha : a.length ≤ 4000) (hb : b.length ≤ 4000) (hc : c.length ≤ 4000) (hk : ks.length < 999) :
    ACalls DX 54 [.ptr τ 0, .str a, .int .u64 n, .str b, .str c] h fun r h' => ∃ al', r = .ret (.str (nameB (putN ks (joinB 5 [a, numB n, b, c]) + 1))) ∧ BW h' τ m1 m2 al' (putT ks (joinB 5 [a, numB n, b, c])) c0 c1 :=
  (seal_spec L.tab hn ha hb hc (by omega)).mono fun r h' H => L.put H
def hsK (a b : List UInt8) : List UInt8 := joinB 4 [[104, 97, 115, 104], a, b]
theorem bHash {h : Hp} {τ m1 m2 : Nat} {al : V} {ks : List (List UInt8)} {c0 c1 : List V} (L : BW h τ m1 m2 al ks c0 c1) {a b : List UInt8} (ha : a.length ≤ 4000) (hb : b.length ≤ 4000) (hk : ks.length < 999) :
    ACalls DX 105 [.agg [.ptr τ 0], .str a, .str b] h fun r h' => ∃ al', r = .ret (.str (nameB (putN ks (hsK a b) + 1))) ∧ BW h' τ m1 m2 al' (putT ks (hsK a b)) c0 c1 := by
  refine acall DX.ok ck105 rfl ?_
  have q0 : rd (h ++ [some (.cells [V.ptr τ 0] none)]) (.ptr h.length 0) 1 = some [.ptr τ 0] := by simp [rd, hget_new, sub]
  simp [F105, V.cells, V.one, fadV, q0, asV, fillV, setAll, chunk]
  have L1 : BW (h ++ [some (.cells [V.ptr τ 0] none)]) τ m1 m2 al ks c0 c1 := L.keep fun c hc => hget_old hc _
  refine (hash_spec L1.tab (ex := true) (ps := [[104, 97, 115, 104], a, b]) (by simp) (by simp; omega) (by simp [joinB, part]; omega) (by omega)).mono ?_
  rintro r h' H
  obtain ⟨al', rfl, L2⟩ := L1.put H
  simp
  exact ⟨rfl, al', L2⟩
/-! ### what a name tells -/
theorem numB_inj {a b : Nat} (h : numB a = numB b) : a = b := by rw [← numOf_numB a, ← numOf_numB b, h]
theorem parts_at {h : Hp} {τ m1 m2 : Nat} {al : V} {ks : List (List UInt8)} (T : Tab h τ m1 m2 al ks) {k : List UInt8} {N : Nat} {kd : UInt8} {ps : List (List UInt8)} (hN : ks[N]? = some k) (hr : readB k = some (kd, ps)) : partsV ks (nameB (N + 1)) = .tup [.int .u8 kd.toNat, frz ps, .bool true] := by
  unfold partsV
  rw [what_name ks 0 N (by omega), Nat.sub_zero, hN]
  simp only [hr]
end Go.Proofs.YtfinnljkcgglfaaDoor
namespace Go.Proofs.YtfinnljkcgglfaaDoor
open Go Go.Vs Go.RowKit
set_option maxRecDepth 100000
set_option linter.unusedSimpArgs false
set_option linter.unusedVariables false
attribute [local simp] unV extV wanted strBin vpt vpn vmp nilV_ptr vic vsn

def E107 : C := (.seq (.reg [⟨some 51, .mov (.t 13), none⟩,
 ⟨some 52, .iad 1 (.t 51) (.k (.int .i64 3)), none⟩,
 ⟨some 53, .load 1 false (.t 52), none⟩,
 ⟨some 10, .mov (.t 53), none⟩,
 ⟨some 11, .mov (.k (.int .i64 0)), none⟩])
 .ret)
def R107 : C := (.seq (.dreg [⟨some 23, .mov (.t 14), none⟩,
 ⟨some 24, .un .not (.t 23), none⟩,
 ⟨some 25, .mov (.t 24), none⟩,
 ⟨some 26, .mov (.t 12), some (25, false)⟩,
 ⟨some 27, .bin .neq .num (.t 26) (.k (.int .u8 5)), some (25, false)⟩,
 ⟨some 28, .pick (.t 25) (.k (.bool true)) (.t 27), none⟩,
 ⟨some 29, .mov (.t 28), none⟩,
 ⟨some 30, .mov (.t 13), some (29, false)⟩,
 ⟨some 31, .iad 1 (.t 30) (.k (.int .i64 0)), some (29, false)⟩,
 ⟨some 32, .load 1 false (.t 31), some (29, false)⟩,
 ⟨some 33, .mov (.t 1), some (29, false)⟩,
 ⟨some 34, .bin .neq .str (.t 32) (.t 33), some (29, false)⟩,
 ⟨some 35, .pick (.t 29) (.k (.bool true)) (.t 34), none⟩,
 ⟨some 36, .mov (.t 35), none⟩,
 ⟨some 37, .mov (.t 13), some (36, false)⟩,
 ⟨some 38, .iad 1 (.t 37) (.k (.int .i64 1)), some (36, false)⟩,
 ⟨some 39, .load 1 false (.t 38), some (36, false)⟩,
 ⟨some 40, .mov (.t 2), some (36, false)⟩,
 ⟨some 41, .call (.k (.fn (.func 57) [] [])) [(.t 40)], some (36, false)⟩,
 ⟨some 42, .bin .neq .str (.t 39) (.t 41), some (36, false)⟩,
 ⟨some 43, .pick (.t 36) (.k (.bool true)) (.t 42), none⟩,
 ⟨some 44, .mov (.t 43), none⟩,
 ⟨some 45, .mov (.t 13), some (44, false)⟩,
 ⟨some 46, .iad 1 (.t 45) (.k (.int .i64 2)), some (44, false)⟩,
 ⟨some 47, .load 1 false (.t 46), some (44, false)⟩,
 ⟨some 48, .mov (.t 3), some (44, false)⟩,
 ⟨some 49, .bin .neq .str (.t 47) (.t 48), some (44, false)⟩,
 ⟨some 50, .pick (.t 44) (.k (.bool true)) (.t 49), none⟩] (.lin [] [(0, none), (1, none), (2, none), (3, none), (4, none), (5, none), (6, none), (7, none), (8, none), (9, none), (10, none), (11, none), (12, none), (13, none), (14, none), (15, none), (16, none), (17, none), (18, some [14, 15, 16]), (19, none), (20, none), (21, none), (22, none), (23, none), (24, none), (25, none), (26, none), (27, none)]))
 (.cond (.t 50)
 (.seq (.reg [⟨some 10, .mov (.k (.str [])), none⟩,
 ⟨some 11, .mov (.k (.int .i64 5)), none⟩])
 .ret)
 .skip))
def F107' : Fun :=
 ⟨54, 5, [.t 10, .t 11],
 (.seq (.reg [⟨some 5, .box none (.t 0), none⟩,
 ⟨some 10, .mov (.k (.str [])), none⟩,
 ⟨some 11, .mov (.k (.int .i64 0)), none⟩])
 (.seq (.reg [⟨some 16, .fad 0 (.t 5), none⟩,
 ⟨some 17, .load 1 false (.t 16), none⟩,
 ⟨some 18, .mov (.t 4), none⟩,
 ⟨some 19, .call (.k (.fn (.func 108) [] [])) [(.t 17), (.t 18)], none⟩,
 ⟨some 15, .mov (.t 19), none⟩,
 ⟨some 20, .ext (.t 15) 0, none⟩,
 ⟨some 21, .ext (.t 15) 1, none⟩,
 ⟨some 22, .ext (.t 15) 2, none⟩,
 ⟨some 12, .mov (.t 20), none⟩,
 ⟨some 13, .mov (.t 21), none⟩,
 ⟨some 14, .mov (.t 22), none⟩])
 (.seq R107
 E107)))⟩
theorem F107_eq : F107 = F107' := rfl


theorem vLs_q' {x : X} {ops : List A} {L : List Nat} {Q : Ex → St → Prop} {i : Nat} {r : List (Nat × Option (List Nat))} {s : St} {d : Option Nat} {ins : I} {v : V} (hn : nth ops i = some ⟨d, ins, none⟩) (h : aop x s.t s.h ins = some (.val v s.h)) (k : vLs x ops L Q r { s with t := put s.t d v }) : vLs x ops L Q ((i, none) :: r) s := by
  simp only [vLs, hn, vLg, h, vLq, dstO]; exact ⟨trivial, k⟩
theorem vLs_w {x : X} {ops : List A} {L : List Nat} {Q : Ex → St → Prop} {i : Nat} {r : List (Nat × Option (List Nat))} {s : St} {d : Option Nat} {ins : I} {g : Nat × Bool} {v : V} (hn : nth ops i = some ⟨d, ins, some g⟩) (hw : wanted s.t (some g) = true) (h : aop x s.t s.h ins = some (.val v s.h)) (k : vLs x ops L Q r { s with t := put s.t d v }) : vLs x ops L Q ((i, none) :: r) s := by
  simp only [vLs, hn, vLg, hw, if_pos, h, vLq, dstO]; exact ⟨trivial, k⟩
theorem vLs_u {x : X} {ops : List A} {L : List Nat} {Q : Ex → St → Prop} {i : Nat} {r : List (Nat × Option (List Nat))} {s : St} {d : Option Nat} {ins : I} {g : Nat × Bool} (hn : nth ops i = some ⟨d, ins, some g⟩) (hw : wanted s.t (some g) = false) (k : vLs x ops L Q r { s with t := put s.t d udf }) : vLs x ops L Q ((i, none) :: r) s := by
  simp only [vLs, hn, vLg, hw, dstO]; exact k
theorem vLs_c {x : X} {ops : List A} {Q : Ex → St → Prop} {i : Nat} {re : List Nat} {r : List (Nat × Option (List Nat))} {t : Nat → V} {h : Hp} {d : Option Nat} {ins : I} {g : Option (Nat × Bool)} {f : FuncId} {args : List V} (hn : nth ops i = some ⟨d, ins, g⟩) (hw : wanted t g = true) (ha : aop x t h ins = some (.call f args))
    (hc : ACalls x f args h fun a h' => ∃ v, a = .ret v ∧ reL x ops re ⟨put t d v, h', []⟩ ∧ vLs x ops [] Q r ⟨put t d v, h', []⟩) : vLs x ops [] Q ((i, some re) :: r) ⟨t, h, []⟩ := by
  simp only [vLs, hn]
  rw [show nd ops [] i = [] from rfl]
  simp only [tell, vop, hw, if_pos, ha]
  refine hc.mono ?_
  rintro a h' ⟨v, rfl, h1, h2⟩
  exact ⟨h1, h2⟩
theorem vLs_n {x : X} {ops : List A} {Q : Ex → St → Prop} {i : Nat} {re : List Nat} {r : List (Nat × Option (List Nat))} {t : Nat → V} {h : Hp} {d : Option Nat} {ins : I} {g : Nat × Bool} (hn : nth ops i = some ⟨d, ins, some g⟩) (hw : wanted t (some g) = false)
    (h1 : reL x ops re ⟨put t d udf, h, []⟩) (h2 : vLs x ops [] Q r ⟨put t d udf, h, []⟩) : vLs x ops [] Q ((i, some re) :: r) ⟨t, h, []⟩ := by
  simp only [vLs, hn]
  rw [show nd ops [] i = [] from rfl]
  simp only [tell, vop, hw]
  exact ⟨h1, h2⟩
theorem reL_q {x : X} {ops : List A} {j : Nat} {re : List Nat} {s : St} {e : Nat} {ins : I} (hn : nth ops j = some ⟨some e, ins, none⟩) (h : aop x s.t s.h ins = some (.val (s.t e) s.h)) (k : reL x ops re s) : reL x ops (j :: re) s := by
  refine ⟨⟨e, by rw [hn]; rfl, ?_⟩, k⟩
  simp only [hn, vLg, h, vLq]; exact ⟨trivial, trivial⟩
theorem reL_w {x : X} {ops : List A} {j : Nat} {re : List Nat} {s : St} {e : Nat} {ins : I} {g : Nat × Bool} (hn : nth ops j = some ⟨some e, ins, some g⟩) (hw : wanted s.t (some g) = true) (h : aop x s.t s.h ins = some (.val (s.t e) s.h)) (k : reL x ops re s) : reL x ops (j :: re) s := by
  refine ⟨⟨e, by rw [hn]; rfl, ?_⟩, k⟩
  simp only [hn, vLg, hw, if_pos, h, vLq]; exact ⟨trivial, trivial⟩
theorem reL_u {x : X} {ops : List A} {j : Nat} {re : List Nat} {s : St} {e : Nat} {ins : I} {g : Nat × Bool} (hn : nth ops j = some ⟨some e, ins, some g⟩) (hw : wanted s.t (some g) = false) (h : s.t e = udf) (k : reL x ops re s) : reL x ops (j :: re) s := by
  refine ⟨⟨e, by rw [hn]; rfl, ?_⟩, k⟩
  simp only [hn, vLg, hw]; exact h.symm
theorem reL_nil (x : X) (ops : List A) (s : St) : reL x ops [] s := trivial

set_option maxHeartbeats 1000000 in
theorem openA {h : Hp} {t : Nat → V} {P : V} {k nb b c a ad : List UInt8} {n : Nat} {Q : Ex → St → Prop} (hn : n < 18446744073709551616) (hi0 : iadV 1 P (.int .i64 0) = some (.fp [.str k] 0)) (hi1 : iadV 1 P (.int .i64 1) = some (.fp [.str nb] 0)) (hi2 : iadV 1 P (.int .i64 2) = some (.fp [.str b] 0))
    (t1 : t 1 = .str a) (t2 : t 2 = .int .u64 n) (t3 : t 3 = .str ad) (t12 : t 12 = .int .u8 5) (t13 : t 13 = P) (t14 : t 14 = .bool true) (hA : ¬ k = a) (hQ : ∀ t', t' 10 = .str [] → t' 11 = .int .i64 5 → Q .ret ⟨t', h, []⟩) : vc DX R107 Q ⟨t, h, []⟩ := by
  have rs : ∀ h (s : List UInt8), rd h (.fp [.str s] 0) 1 = some [.str s] := fun h s => rfl
  unfold R107
  simp
  refine vD_lin ?_
  refine vLs_q' (v := .bool true) rfl (by simp [t14]) ?_
  refine vLs_q' (v := .bool false) rfl (by simp) ?_
  refine vLs_q' (v := .bool false) rfl (by simp) ?_
  refine vLs_w (v := .int .u8 5) rfl (by simp) (by simp [t12]) ?_
  refine vLs_w (v := .bool false) rfl (by simp) (by simp) ?_
  refine vLs_q' (v := .bool false) rfl (by simp) ?_
  refine vLs_q' (v := .bool false) rfl (by simp) ?_
  refine vLs_w (v := P) rfl (by simp) (by simp [t13]) ?_
  refine vLs_w (v := .fp [.str k] 0) rfl (by simp) (by simp [hi0]) ?_
  refine vLs_w (v := .str k) rfl (by simp) (by simp [rs, asV]) ?_
  refine vLs_w (v := .str a) rfl (by simp) (by simp [t1]) ?_
  refine vLs_w (v := .bool true) rfl (by simp) (by simp [hA]) ?_
  refine vLs_q' (v := .bool true) rfl (by simp) ?_
  refine vLs_q' (v := .bool true) rfl (by simp) ?_
  refine vLs_u rfl (by simp) ?_
  refine vLs_u rfl (by simp) ?_
  refine vLs_u rfl (by simp) ?_
  refine vLs_u rfl (by simp) ?_
  refine vLs_n rfl (by simp) (reL_u rfl (by simp) (by simp) <| reL_u rfl (by simp) (by simp) <| reL_u rfl (by simp) (by simp) <| reL_nil _ _ _) ?_
  refine vLs_u rfl (by simp) ?_
  refine vLs_q' (v := .bool true) rfl (by simp) ?_
  refine vLs_q' (v := .bool true) rfl (by simp) ?_
  refine vLs_u rfl (by simp) ?_
  refine vLs_u rfl (by simp) ?_
  refine vLs_u rfl (by simp) ?_
  refine vLs_u rfl (by simp) ?_
  refine vLs_u rfl (by simp) ?_
  refine vLs_q' (v := .bool true) rfl (by simp) ?_
  simp only [vLs]
  simp
  exact hQ _ (by simp) (by simp)
set_option maxHeartbeats 1000000 in
theorem openB {h : Hp} {t : Nat → V} {P : V} {k nb b c a ad : List UInt8} {n : Nat} {Q : Ex → St → Prop} (hn : n < 18446744073709551616) (hi0 : iadV 1 P (.int .i64 0) = some (.fp [.str k] 0)) (hi1 : iadV 1 P (.int .i64 1) = some (.fp [.str nb] 0)) (hi2 : iadV 1 P (.int .i64 2) = some (.fp [.str b] 0))
    (t1 : t 1 = .str a) (t2 : t 2 = .int .u64 n) (t3 : t 3 = .str ad) (t12 : t 12 = .int .u8 5) (t13 : t 13 = P) (t14 : t 14 = .bool true) (hA : k = a) (hB : ¬ nb = numB n) (hQ : ∀ t', t' 10 = .str [] → t' 11 = .int .i64 5 → Q .ret ⟨t', h, []⟩) : vc DX R107 Q ⟨t, h, []⟩ := by
  have rs : ∀ h (s : List UInt8), rd h (.fp [.str s] 0) 1 = some [.str s] := fun h s => rfl
  unfold R107
  simp
  refine vD_lin ?_
  refine vLs_q' (v := .bool true) rfl (by simp [t14]) ?_
  refine vLs_q' (v := .bool false) rfl (by simp) ?_
  refine vLs_q' (v := .bool false) rfl (by simp) ?_
  refine vLs_w (v := .int .u8 5) rfl (by simp) (by simp [t12]) ?_
  refine vLs_w (v := .bool false) rfl (by simp) (by simp) ?_
  refine vLs_q' (v := .bool false) rfl (by simp) ?_
  refine vLs_q' (v := .bool false) rfl (by simp) ?_
  refine vLs_w (v := P) rfl (by simp) (by simp [t13]) ?_
  refine vLs_w (v := .fp [.str k] 0) rfl (by simp) (by simp [hi0]) ?_
  refine vLs_w (v := .str k) rfl (by simp) (by simp [rs, asV]) ?_
  refine vLs_w (v := .str a) rfl (by simp) (by simp [t1]) ?_
  refine vLs_w (v := .bool false) rfl (by simp) (by simp [hA]) ?_
  refine vLs_q' (v := .bool false) rfl (by simp) ?_
  refine vLs_q' (v := .bool false) rfl (by simp) ?_
  refine vLs_w (v := P) rfl (by simp) (by simp [t13]) ?_
  refine vLs_w (v := .fp [.str nb] 0) rfl (by simp) (by simp [hi1]) ?_
  refine vLs_w (v := .str nb) rfl (by simp) (by simp [rs, asV]) ?_
  refine vLs_w (v := .int .u64 n) rfl (by simp) (by simp [t2]) ?_
  refine vLs_c rfl (by simp) (by simp <;> rfl) ((PCalls.at DX.low (num_spec (h := []) (n := n) hn (LowH.zero _)) (fun v hv => by simp at hv; subst hv; exact .int _ _) h).mono ?_)
  rintro r h' ⟨⟨rfl, _⟩, rfl⟩
  refine ⟨_, rfl, reL_w rfl (by simp) (by simp [t13]) <| reL_w rfl (by simp) (by simp [hi1]) <| reL_w rfl (by simp) (by simp [rs, asV]) <| reL_nil _ _ _, ?_⟩
  refine vLs_w (v := .bool true) rfl (by simp) (by simp [hB]) ?_
  refine vLs_q' (v := .bool true) rfl (by simp) ?_
  refine vLs_q' (v := .bool true) rfl (by simp) ?_
  refine vLs_u rfl (by simp) ?_
  refine vLs_u rfl (by simp) ?_
  refine vLs_u rfl (by simp) ?_
  refine vLs_u rfl (by simp) ?_
  refine vLs_u rfl (by simp) ?_
  refine vLs_q' (v := .bool true) rfl (by simp) ?_
  simp only [vLs]
  simp
  exact hQ _ (by simp) (by simp)
set_option maxHeartbeats 1000000 in
theorem openC {h : Hp} {t : Nat → V} {P : V} {k nb b c a ad : List UInt8} {n : Nat} {Q : Ex → St → Prop} (hn : n < 18446744073709551616) (hi0 : iadV 1 P (.int .i64 0) = some (.fp [.str k] 0)) (hi1 : iadV 1 P (.int .i64 1) = some (.fp [.str nb] 0)) (hi2 : iadV 1 P (.int .i64 2) = some (.fp [.str b] 0))
    (t1 : t 1 = .str a) (t2 : t 2 = .int .u64 n) (t3 : t 3 = .str ad) (t12 : t 12 = .int .u8 5) (t13 : t 13 = P) (t14 : t 14 = .bool true) (hA : k = a) (hB : nb = numB n) (hC : ¬ b = ad) (hQ : ∀ t', t' 10 = .str [] → t' 11 = .int .i64 5 → Q .ret ⟨t', h, []⟩) : vc DX R107 Q ⟨t, h, []⟩ := by
  have rs : ∀ h (s : List UInt8), rd h (.fp [.str s] 0) 1 = some [.str s] := fun h s => rfl
  unfold R107
  simp
  refine vD_lin ?_
  refine vLs_q' (v := .bool true) rfl (by simp [t14]) ?_
  refine vLs_q' (v := .bool false) rfl (by simp) ?_
  refine vLs_q' (v := .bool false) rfl (by simp) ?_
  refine vLs_w (v := .int .u8 5) rfl (by simp) (by simp [t12]) ?_
  refine vLs_w (v := .bool false) rfl (by simp) (by simp) ?_
  refine vLs_q' (v := .bool false) rfl (by simp) ?_
  refine vLs_q' (v := .bool false) rfl (by simp) ?_
  refine vLs_w (v := P) rfl (by simp) (by simp [t13]) ?_
  refine vLs_w (v := .fp [.str k] 0) rfl (by simp) (by simp [hi0]) ?_
  refine vLs_w (v := .str k) rfl (by simp) (by simp [rs, asV]) ?_
  refine vLs_w (v := .str a) rfl (by simp) (by simp [t1]) ?_
  refine vLs_w (v := .bool false) rfl (by simp) (by simp [hA]) ?_
  refine vLs_q' (v := .bool false) rfl (by simp) ?_
  refine vLs_q' (v := .bool false) rfl (by simp) ?_
  refine vLs_w (v := P) rfl (by simp) (by simp [t13]) ?_
  refine vLs_w (v := .fp [.str nb] 0) rfl (by simp) (by simp [hi1]) ?_
  refine vLs_w (v := .str nb) rfl (by simp) (by simp [rs, asV]) ?_
  refine vLs_w (v := .int .u64 n) rfl (by simp) (by simp [t2]) ?_
  refine vLs_c rfl (by simp) (by simp <;> rfl) ((PCalls.at DX.low (num_spec (h := []) (n := n) hn (LowH.zero _)) (fun v hv => by simp at hv; subst hv; exact .int _ _) h).mono ?_)
  rintro r h' ⟨⟨rfl, _⟩, rfl⟩
  refine ⟨_, rfl, reL_w rfl (by simp) (by simp [t13]) <| reL_w rfl (by simp) (by simp [hi1]) <| reL_w rfl (by simp) (by simp [rs, asV]) <| reL_nil _ _ _, ?_⟩
  refine vLs_w (v := .bool false) rfl (by simp) (by simp [hB]) ?_
  refine vLs_q' (v := .bool false) rfl (by simp) ?_
  refine vLs_q' (v := .bool false) rfl (by simp) ?_
  refine vLs_w (v := P) rfl (by simp) (by simp [t13]) ?_
  refine vLs_w (v := .fp [.str b] 0) rfl (by simp) (by simp [hi2]) ?_
  refine vLs_w (v := .str b) rfl (by simp) (by simp [rs, asV]) ?_
  refine vLs_w (v := .str ad) rfl (by simp) (by simp [t3]) ?_
  refine vLs_w (v := .bool true) rfl (by simp) (by simp [hC]) ?_
  refine vLs_q' (v := .bool true) rfl (by simp) ?_
  simp only [vLs]
  simp
  exact hQ _ (by simp) (by simp)
set_option maxHeartbeats 1000000 in
theorem openD {h : Hp} {t : Nat → V} {P : V} {k nb b c a ad : List UInt8} {n : Nat} {Q : Ex → St → Prop} (hn : n < 18446744073709551616) (hi0 : iadV 1 P (.int .i64 0) = some (.fp [.str k] 0)) (hi1 : iadV 1 P (.int .i64 1) = some (.fp [.str nb] 0)) (hi2 : iadV 1 P (.int .i64 2) = some (.fp [.str b] 0))
    (t1 : t 1 = .str a) (t2 : t 2 = .int .u64 n) (t3 : t 3 = .str ad) (t12 : t 12 = .int .u8 5) (t13 : t 13 = P) (t14 : t 14 = .bool true) (hA : k = a) (hB : nb = numB n) (hC : b = ad) (hQ : ∀ t', t' 13 = P → Q .normal ⟨t', h, []⟩) : vc DX R107 Q ⟨t, h, []⟩ := by
  have rs : ∀ h (s : List UInt8), rd h (.fp [.str s] 0) 1 = some [.str s] := fun h s => rfl
  unfold R107
  simp
  refine vD_lin ?_
  refine vLs_q' (v := .bool true) rfl (by simp [t14]) ?_
  refine vLs_q' (v := .bool false) rfl (by simp) ?_
  refine vLs_q' (v := .bool false) rfl (by simp) ?_
  refine vLs_w (v := .int .u8 5) rfl (by simp) (by simp [t12]) ?_
  refine vLs_w (v := .bool false) rfl (by simp) (by simp) ?_
  refine vLs_q' (v := .bool false) rfl (by simp) ?_
  refine vLs_q' (v := .bool false) rfl (by simp) ?_
  refine vLs_w (v := P) rfl (by simp) (by simp [t13]) ?_
  refine vLs_w (v := .fp [.str k] 0) rfl (by simp) (by simp [hi0]) ?_
  refine vLs_w (v := .str k) rfl (by simp) (by simp [rs, asV]) ?_
  refine vLs_w (v := .str a) rfl (by simp) (by simp [t1]) ?_
  refine vLs_w (v := .bool false) rfl (by simp) (by simp [hA]) ?_
  refine vLs_q' (v := .bool false) rfl (by simp) ?_
  refine vLs_q' (v := .bool false) rfl (by simp) ?_
  refine vLs_w (v := P) rfl (by simp) (by simp [t13]) ?_
  refine vLs_w (v := .fp [.str nb] 0) rfl (by simp) (by simp [hi1]) ?_
  refine vLs_w (v := .str nb) rfl (by simp) (by simp [rs, asV]) ?_
  refine vLs_w (v := .int .u64 n) rfl (by simp) (by simp [t2]) ?_
  refine vLs_c rfl (by simp) (by simp <;> rfl) ((PCalls.at DX.low (num_spec (h := []) (n := n) hn (LowH.zero _)) (fun v hv => by simp at hv; subst hv; exact .int _ _) h).mono ?_)
  rintro r h' ⟨⟨rfl, _⟩, rfl⟩
  refine ⟨_, rfl, reL_w rfl (by simp) (by simp [t13]) <| reL_w rfl (by simp) (by simp [hi1]) <| reL_w rfl (by simp) (by simp [rs, asV]) <| reL_nil _ _ _, ?_⟩
  refine vLs_w (v := .bool false) rfl (by simp) (by simp [hB]) ?_
  refine vLs_q' (v := .bool false) rfl (by simp) ?_
  refine vLs_q' (v := .bool false) rfl (by simp) ?_
  refine vLs_w (v := P) rfl (by simp) (by simp [t13]) ?_
  refine vLs_w (v := .fp [.str b] 0) rfl (by simp) (by simp [hi2]) ?_
  refine vLs_w (v := .str b) rfl (by simp) (by simp [rs, asV]) ?_
  refine vLs_w (v := .str ad) rfl (by simp) (by simp [t3]) ?_
  refine vLs_w (v := .bool false) rfl (by simp) (by simp [hC]) ?_
  refine vLs_q' (v := .bool false) rfl (by simp) ?_
  simp only [vLs]
  simp
  exact hQ _ (by simp [t13])
set_option maxHeartbeats 1000000 in
theorem openH {h : Hp} {t : Nat → V} {P : V} {a ad : List UInt8} {n : Nat} {Q : Ex → St → Prop} (hn : n < 18446744073709551616) 
    (t1 : t 1 = .str a) (t2 : t 2 = .int .u64 n) (t3 : t 3 = .str ad) (t12 : t 12 = .int .u8 4) (t13 : t 13 = P) (t14 : t 14 = .bool true)  (hQ : ∀ t', t' 10 = .str [] → t' 11 = .int .i64 5 → Q .ret ⟨t', h, []⟩) : vc DX R107 Q ⟨t, h, []⟩ := by
  have rs : ∀ h (s : List UInt8), rd h (.fp [.str s] 0) 1 = some [.str s] := fun h s => rfl
  unfold R107
  simp
  refine vD_lin ?_
  refine vLs_q' (v := .bool true) rfl (by simp [t14]) ?_
  refine vLs_q' (v := .bool false) rfl (by simp) ?_
  refine vLs_q' (v := .bool false) rfl (by simp) ?_
  refine vLs_w (v := .int .u8 4) rfl (by simp) (by simp [t12]) ?_
  refine vLs_w (v := .bool true) rfl (by simp) (by simp) ?_
  refine vLs_q' (v := .bool true) rfl (by simp) ?_
  refine vLs_q' (v := .bool true) rfl (by simp) ?_
  refine vLs_u rfl (by simp) ?_
  refine vLs_u rfl (by simp) ?_
  refine vLs_u rfl (by simp) ?_
  refine vLs_u rfl (by simp) ?_
  refine vLs_u rfl (by simp) ?_
  refine vLs_q' (v := .bool true) rfl (by simp) ?_
  refine vLs_q' (v := .bool true) rfl (by simp) ?_
  refine vLs_u rfl (by simp) ?_
  refine vLs_u rfl (by simp) ?_
  refine vLs_u rfl (by simp) ?_
  refine vLs_u rfl (by simp) ?_
  refine vLs_n rfl (by simp) (reL_u rfl (by simp) (by simp) <| reL_u rfl (by simp) (by simp) <| reL_u rfl (by simp) (by simp) <| reL_nil _ _ _) ?_
  refine vLs_u rfl (by simp) ?_
  refine vLs_q' (v := .bool true) rfl (by simp) ?_
  refine vLs_q' (v := .bool true) rfl (by simp) ?_
  refine vLs_u rfl (by simp) ?_
  refine vLs_u rfl (by simp) ?_
  refine vLs_u rfl (by simp) ?_
  refine vLs_u rfl (by simp) ?_
  refine vLs_u rfl (by simp) ?_
  refine vLs_q' (v := .bool true) rfl (by simp) ?_
  simp only [vLs]
  simp
  exact hQ _ (by simp) (by simp)
end Go.Proofs.YtfinnljkcgglfaaDoor
namespace Go.Proofs.YtfinnljkcgglfaaDoor
open Go Go.Vs Go.RowKit
set_option maxRecDepth 100000
set_option linter.unusedSimpArgs false
set_option linter.unusedVariables false
attribute [local simp] unV extV wanted strBin vpt vpn vmp nilV_ptr vic vsn

theorem frz4 (a b c d : List UInt8) : frz [a, b, c, d] = .lst false [.str a, .str b, .str c, .str d] := rfl
/-- Of a box: with the same key, number and ad its text, with others ErrTag. -/
theorem symOpen5 {h : Hp} {τ m1 m2 : Nat} {al : V} {ks : List (List UInt8)} (T : Tab h τ m1 m2 al ks) {k b c a ad : List UInt8} {n n' N : Nat} (hn : n < 18446744073709551616) {K : List UInt8} (hN : ks[N]? = some K) (hr : readB K = some (5, [k, numB n', b, c])) :
    ACalls DX 107 [.agg [.ptr τ 0], .str a, .int .u64 n, .str ad, .str (nameB (N + 1))] h fun r h' => r = .ret (.tup [.str (if k = a ∧ n' = n ∧ b = ad then c else []), .int .i64 (if k = a ∧ n' = n ∧ b = ad then 0 else 5)]) ∧ h' = h ++ [some (.cells [.ptr τ 0] none)] := by
  refine acall DX.ok ck107 rfl ?_
  have q0 : rd (h ++ [some (.cells [V.ptr τ 0] none)]) (.ptr h.length 0) 1 = some [.ptr τ 0] := by simp [rd, hget_new, sub]
  have T1 : Tab (h ++ [some (.cells [V.ptr τ 0] none)]) τ m1 m2 al ks := T.keep fun c hc => hget_old hc _
  have hi0 : iadV 1 (.lst false [.str k, .str (numB n'), .str b, .str c]) (.int .i64 0) = some (.fp [.str k] 0) := rfl
  have hi1 : iadV 1 (.lst false [.str k, .str (numB n'), .str b, .str c]) (.int .i64 1) = some (.fp [.str (numB n')] 0) := rfl
  have hi2 : iadV 1 (.lst false [.str k, .str (numB n'), .str b, .str c]) (.int .i64 2) = some (.fp [.str b] 0) := rfl
  have hi3 : iadV 1 (.lst false [.str k, .str (numB n'), .str b, .str c]) (.int .i64 3) = some (.fp [.str c] 0) := rfl
  have rs : ∀ h (s : List UInt8), rd h (.fp [.str s] 0) 1 = some [.str s] := fun h s => rfl
  have k5 : (UInt8.toNat 5 : Int) = 5 := rfl
  simp only [F107_eq, F107']
  simp [V.cells, V.one, fadV, q0, asV]
  refine (parts_spec T1 _).mono ?_
  rintro r h' ⟨rfl, hh⟩
  rw [hh]; clear hh h'
  rw [parts_at T1 hN hr, frz4]
  simp
  by_cases hA : k = a
  · by_cases hB : n' = n
    · by_cases hC : b = ad
      · subst hA hB hC
        refine openD (P := .lst false [.str k, .str (numB n'), .str b, .str c]) (k := k) (nb := numB n') (b := b) (c := c) (a := k) (ad := b) hn hi0 hi1 hi2 (by simp) (by simp) (by simp) (by simp) (by simp) (by simp) rfl rfl rfl fun t' t13 => ?_
        simp [E107, t13, hi3, rs, asV]
      · refine openC (P := .lst false [.str k, .str (numB n'), .str b, .str c]) (c := c) hn hi0 hi1 hi2 (by simp) (by simp) (by simp) (by simp) (by simp) (by simp) hA (by rw [hB]) hC fun t' t10 t11 => ?_
        simp [t10, t11, hC]
    · refine openB (P := .lst false [.str k, .str (numB n'), .str b, .str c]) (c := c) (ad := ad) hn hi0 hi1 hi2 (by simp) (by simp) (by simp) (by simp) (by simp) (by simp) hA (fun e => hB (numB_inj e)) fun t' t10 t11 => ?_
      simp [t10, t11, hB]
  · refine openA (P := .lst false [.str k, .str (numB n'), .str b, .str c]) (c := c) (a := a) (ad := ad) hn hi0 hi1 hi2 (by simp) (by simp) (by simp) (by simp) (by simp) (by simp) hA fun t' t10 t11 => ?_
    simp [t10, t11, hA]
/-- Of a digest: ErrTag. -/
theorem symOpen4 {h : Hp} {τ m1 m2 : Nat} {al : V} {ks : List (List UInt8)} (T : Tab h τ m1 m2 al ks) {a ad : List UInt8} {n N : Nat} {ps : List (List UInt8)} (hn : n < 18446744073709551616) {K : List UInt8} (hN : ks[N]? = some K) (hr : readB K = some (4, ps)) :
    ACalls DX 107 [.agg [.ptr τ 0], .str a, .int .u64 n, .str ad, .str (nameB (N + 1))] h fun r h' => r = .ret (.tup [.str [], .int .i64 5]) ∧ h' = h ++ [some (.cells [.ptr τ 0] none)] := by
  refine acall DX.ok ck107 rfl ?_
  have q0 : rd (h ++ [some (.cells [V.ptr τ 0] none)]) (.ptr h.length 0) 1 = some [.ptr τ 0] := by simp [rd, hget_new, sub]
  have T1 : Tab (h ++ [some (.cells [V.ptr τ 0] none)]) τ m1 m2 al ks := T.keep fun c hc => hget_old hc _
  simp only [F107_eq, F107']
  simp [V.cells, V.one, fadV, q0, asV]
  refine (parts_spec T1 _).mono ?_
  rintro r h' ⟨rfl, hh⟩
  rw [hh]; clear hh h'
  rw [parts_at T1 hN hr]
  simp
  refine openH (P := frz ps) (a := a) (ad := ad) (n := n) hn (by simp) (by simp) (by simp) (by simp) (by simp) (by simp) fun t' t10 t11 => ?_
  simp [t10, t11]
end Go.Proofs.YtfinnljkcgglfaaDoor
