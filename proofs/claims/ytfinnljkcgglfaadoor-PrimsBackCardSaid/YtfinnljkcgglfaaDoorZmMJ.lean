/- aead's Open: one answer. -/
import Derived.Test.YtfinnljkcgglfaaDoorZmGJ
set_option linter.unusedSimpArgs false
set_option linter.unusedVariables false
namespace Go.Proofs.YtfinnljkcgglfaaDoor
open Go Go.Vs Go.RowKit
set_option maxRecDepth 100000
set_option linter.unusedSimpArgs false
set_option linter.unusedVariables false
attribute [local simp] unV extV wanted strBin vpt vpn vmp nilV_ptr vic vsn

def E13 : C := (.seq (.dreg [⟨some 42, .load 32 true (.t 4), none⟩,
 ⟨some 43, .fad 32 (.t 11), none⟩,
 ⟨some 44, .load 12 true (.t 43), none⟩,
 ⟨some 45, .mov (.t 3), none⟩,
 ⟨some 46, .mov (.t 10), none⟩,
 ⟨some 47, .slc false 1 (.t 45) none (some (.t 46)) none, none⟩,
 ⟨some 48, .call (.k (.fn (.func 16) [] [])) [(.t 42), (.t 44), (.k (.int .u32 1)), (.t 47)], none⟩,
 ⟨some 49, .ext (.t 48) 0, none⟩,
 ⟨some 50, .ext (.t 48) 1, none⟩,
 ⟨some 8, .mov (.t 49), none⟩,
 ⟨some 9, .mov (.t 50), none⟩] (.lin [] [(0, none), (1, none), (2, none), (3, none), (4, none), (5, none), (6, some []), (7, none), (8, none), (9, none), (10, none)]))
 .ret)
def D13 : C := (.seq (.seq (.dreg [⟨some 30, .load 44 true (.t 11), none⟩,
 ⟨some 31, .mov (.t 2), none⟩,
 ⟨some 32, .mov (.t 3), none⟩,
 ⟨some 33, .mov (.t 10), none⟩,
 ⟨some 34, .slc false 1 (.t 32) none (some (.t 33)) none, none⟩,
 ⟨some 35, .call (.k (.fn (.func 17) [] [])) [(.t 30), (.t 31), (.t 34)], none⟩,
 ⟨some 12, .new (zU 16) none, none⟩,
 ⟨none, .store 16 (.t 12) (.t 35), none⟩] (.lin [6] [(0, none), (1, none), (2, none), (3, none), (4, none), (5, some []), (7, some [])]))
 (.seq (.dreg [⟨some 36, .slca 16 1 false (.t 12) none none none, none⟩,
 ⟨some 37, .mov (.t 3), none⟩,
 ⟨some 38, .mov (.t 10), none⟩,
 ⟨some 39, .slc false 1 (.t 37) (some (.t 38)) none none, none⟩,
 ⟨some 40, .call (.k (.fn (.func 18) [] [])) [(.t 36), (.t 39)], none⟩,
 ⟨some 41, .un .not (.t 40), none⟩] (.lin [] [(0, none), (1, none), (2, none), (3, none), (4, some []), (5, none)]))
 (.cond (.t 41)
 (.seq (.reg [⟨some 8, .mov (.k .nsl), none⟩,
 ⟨some 9, .mov (.k (.int .i64 5)), none⟩])
 .ret)
 .skip)))
 E13)
def F13' : Fun :=
 ⟨51, 4, [.t 8, .t 9],
 (.seq (.reg [⟨some 4, .box none (.t 0), none⟩,
 ⟨some 8, .mov (.k .nsl), none⟩,
 ⟨some 9, .mov (.k (.int .i64 0)), none⟩])
 (.seq (.reg [⟨some 13, .mov (.t 3), none⟩,
 ⟨some 14, .len .slc (.t 13), none⟩,
 ⟨some 15, .bin .sub .num (.t 14) (.k (.int .i64 16)), none⟩,
 ⟨some 10, .mov (.t 15), none⟩])
 (.seq (.block 0
 (.seq (.reg [⟨some 17, .mov (.t 2), none⟩,
 ⟨some 18, .len .slc (.t 17), none⟩,
 ⟨some 19, .bin .gtr .num (.t 18) (.k (.int .i64 60000)), none⟩,
 ⟨some 20, .mov (.t 19), none⟩,
 ⟨some 21, .mov (.t 10), some (20, false)⟩,
 ⟨some 22, .bin .gtr .num (.t 21) (.k (.int .i64 60000)), some (20, false)⟩,
 ⟨some 23, .pick (.t 20) (.k (.bool true)) (.t 22), none⟩,
 ⟨some 16, .mov (.t 23), none⟩])
 (.cond (.t 16)
 (.seq (.reg [⟨some 8, .mov (.k .nsl), none⟩,
 ⟨some 9, .mov (.k (.int .i64 3)), none⟩])
 .ret)
 (.seq (.reg [⟨some 25, .mov (.t 10), none⟩,
 ⟨some 26, .bin .lss .num (.t 25) (.k (.int .i64 0)), none⟩,
 ⟨some 24, .mov (.t 26), none⟩])
 (.cond (.t 24)
 (.seq (.reg [⟨some 8, .mov (.k .nsl), none⟩,
 ⟨some 9, .mov (.k (.int .i64 4)), none⟩])
 .ret)
 .skip)))))
 (.seq (.reg [⟨some 27, .load 32 true (.t 4), none⟩,
 ⟨some 28, .mov (.t 1), none⟩,
 ⟨some 29, .call (.k (.fn (.func 15) [] [])) [(.t 27), (.t 28)], none⟩,
 ⟨some 11, .new (zU 44) none, none⟩,
 ⟨none, .store 44 (.t 11) (.t 29), none⟩])
 D13))))⟩
def F13 : Fun := F13'
theorem F13_eq : F13 = F13' := rfl
theorem ck13 : ckF Tryd.prog 13 F13 = true := by kernel_rfl


theorem slc_hi {bs : List V} (hB : isB bs) {n : Nat} (h : n ≤ bs.length) : slcV 1 (.lst false bs) 0 (some n) none = some (.lst false (bs.take n)) := by
  simp only [slcV, Option.getD_some]
  rw [if_pos ⟨by omega, h, isB_len hB⟩]
  simp [upTo]
theorem slc_lo {bs : List V} (hB : isB bs) {n : Nat} (h : n ≤ bs.length) : slcV 1 (.lst false bs) n none none = some (.lst false (bs.drop n)) := by
  simp only [slcV, Option.getD_none]
  rw [if_pos ⟨by omega, by simp, isB_len hB⟩]
  simp [upTo]
theorem CK_take {n m : Nat} {C : Nat → Int} (h : m ≤ n) : (CK .u8 n C).take m = CK .u8 m C := by
  refine List.ext_getElem? fun j => ?_
  rw [List.getElem?_take]
  by_cases hj : j < m
  · rw [if_pos hj, CK_get hj, CK_get (by omega)]
  · rw [if_neg hj, List.getElem?_eq_none (by rw [CK_len]; omega)]
theorem CK_drop {n m : Nat} {C : Nat → Int} : (CK .u8 (m + n) C).drop m = CK .u8 n (fun p => C (m + p)) := by
  refine List.ext_getElem? fun j => ?_
  rw [List.getElem?_drop]
  by_cases hj : j < n
  · rw [CK_get hj, CK_get (by omega)]
  · rw [List.getElem?_eq_none (by rw [CK_len]; omega), List.getElem?_eq_none (by rw [CK_len]; omega)]
/-- Is this the tag? -/
noncomputable def eqF (z kc : List V) (n : Int) (ad : List V) (m : Nat) (C : Nat → Int) : Bool := eqX (intAt (lsF z (lkF kc n) ad (CK .u8 m C))) (fun p => C (m + p)) 16 == 0
theorem open_short {z kc ad : List V} {n : Int} {m : Nat} {C : Nat → Int} (hk : isK .u8 32 kc = true) (ha : isB ad) (la : ad.length ≤ 60000) (hm : m < 16) :
    PCalls (BX z) 13 [.agg kc, .int .u64 n, .lst false ad, .lst false (CK .u8 m C)] fun r => r = .ret (.tup [.nsl, .int .i64 4]) := by
  refine PCalls.of (acall (BX.ok z) (show ckF (BX z).P 13 F13 = true from ck13) rfl ?_) fun r hr => by subst hr; exact .tup _ (by simp; exact ⟨.nsl, .int _ _⟩)
  have o1 : (∀ c ∈ kc, c.one = true) = True := eq_true (one_of hk)
  have hla : ∀ h, lenV h .slc (.lst false ad) = some (.int .i64 (ad.length : Int)) := fun h => rfl
  have hlm : ∀ h, lenV h .slc (.lst false (CK .u8 m C)) = some (.int .i64 (m : Int)) := fun h => by show some _ = some _; simp [CK_len]
  have a1 : ¬ (60000 : Int) < (ad.length : Int) := by omega
  have a2 : ¬ 60000 < ad.length := by omega
  have a3 : (ad.length : Int) ≤ 60000 := by omega
  have w1 : IntKind.i64.wrap ((m : Int) - 16) = (m : Int) - 16 := by rw [wrap64 (by omega) (by omega)]
  have m1 : ¬ (60000 : Int) < (m : Int) - 16 := by omega
  have m2 : (m : Int) - 16 < 0 := by omega
  have m3 : (m : Int) - 16 ≤ 60000 := by omega
  simp only [F13_eq, F13']
  simp [V.cells, o1, hla, hlm, a1, a2, a3, w1, m1, m2, m3]
theorem open_D {z kc ad : List V} {n : Int} {m : Nat} {C : Nat → Int} {t : Nat → V} {Q : Ex → St → Prop} (hk : isK .u8 32 kc = true) (ha : isB ad) (la : ad.length ≤ 60000) (hm : m ≤ 60000)
    (t2 : t 2 = .lst false ad) (t3 : t 3 = .lst false (CK .u8 (m + 16) C)) (t4 : t 4 = .ptr 0 0) (t10 : t 10 = .int .i64 m) (t11 : t 11 = .ptr 1 0)
    (h1 : eqF z kc n ad m C = true → ∀ t' h' β, t' 8 = .sl β 0 m m true 1 false → t' 9 = .int .i64 0 → hget h' β = some (.cells (outF z kc n m C) none) → Q .ret ⟨t', h', []⟩)
    (h2 : eqF z kc n ad m C = false → ∀ t' h', t' 8 = .nsl → t' 9 = .int .i64 5 → Q .ret ⟨t', h', []⟩) : vc (BX z) D13 Q ⟨t, [some (.cells kc none), some (.cells (lkF kc n) none)], []⟩ := by
  have hlk := lkF_is (n := n) hk
  obtain ⟨H, hH⟩ : ∃ H : Hp, H = [some (.cells kc none), some (.cells (lkF kc n) none)] := ⟨_, rfl⟩
  rw [← hH]
  have lH : H.length = 2 := by rw [hH]; rfl
  have g0 : hget H 0 = some (.cells kc none) := by rw [hH]; rfl
  have g1 : hget H 1 = some (.cells (lkF kc n) none) := by rw [hH]; rfl
  have r1 : rd H (.ptr 1 0) 44 = some (lkF kc n) := rd_allc g1 (isK_len hlk)
  have sh : slcV 1 (.lst false (CK .u8 (m + 16) C)) 0 (some m) none = some (.lst false (CK .u8 m C)) := by
    rw [slc_hi CK_B (by rw [CK_len]; omega), CK_take (by omega)]
  have sl : slcV 1 (.lst false (CK .u8 (m + 16) C)) m none none = some (.lst false (CK .u8 16 (fun p => C (m + p)))) := by
    rw [slc_lo CK_B (by rw [CK_len]; omega), CK_drop]
  have hT := lsF_spec (z := z) hlk ha (CK_B (n := m) (A := C)) (by omega : ad.length < 2 ^ 30) (by rw [CK_len]; omega)
  have lt := isK_len hT.1
  obtain ⟨tg, htg⟩ : ∃ tg, tg = lsF z (lkF kc n) ad (CK .u8 m C) := ⟨_, rfl⟩
  have heq : eqF z kc n ad m C = (eqX (intAt tg) (fun p => C (m + p)) 16 == 0) := by unfold eqF; rw [← htg]
  rw [← htg] at hT lt
  have n0 : ¬ (m : Int) < 0 := by omega
  simp only [D13]
  simp
  refine vD_lin ?_
  simp [reL, vLs, vLg, vLq, dstO, nth_zero, nth_succ, nd, tell, dstOf, A.looks, I.uses, O.use, usesO, List.filter_cons, List.filter_nil, fadV, asV, t2, t3, t10, t11, r1, sh, V.isStr, n0]
  refine (PCalls.at (BX.low z) hT.2 (fun v hv => by
    simp at hv; rcases hv with rfl | rfl | rfl
    · exact .agg _ (isK_low hlk)
    · exact lowB ha _
    · exact lowB CK_B _) H).mono ?_
  rintro r h3 ⟨rfl, hh⟩
  rw [hh]; clear hh h3
  have sT : stV (H ++ [some (.cells (zU 16) none)]) 16 (.ptr H.length 0) (.agg tg) = some (.skip (WP H tg)) := by
    rw [st_all (n := 16) (old := zU 16) (ty := none) (by simp [hget]) rfl lt (one_of hT.1)]
    simp [WP]
  have sc : slcaVV (WP H tg) 16 1 false (.ptr H.length 0) = some (.val (.sl H.length 0 16 16 true 1 false) (WP H tg)) := slcaVV_at (WP_at ..) lt
  simp [tell1, sT]
  refine vD_lin ?_
  simp [reL, vLs, vLg, vLq, dstO, nth_zero, nth_succ, nd, tell, fadV, asV, t3, t10, aop_slcaV, sc, sl, V.isStr, n0]
  have hE : ACalls (BX z) 18 [.sl H.length 0 16 16 true 1 false, .lst false (CK .u8 16 (fun p => C (m + p)))] (WP H tg) fun r h' => r = .ret (.bool (eqX (intAt tg) (fun p => C (m + p)) 16 == 0)) ∧ h' = WP H tg := by
    refine (((equal_spec (n := 16) (A := intAt tg) (B := fun p => C (m + p)) (by omega)).up (BX.up z)).frz (BX.low z) (fun r hr => by subst hr; exact .bool _) (h := WP H tg) (args := [.sl H.length 0 16 16 true 1 false, .lst false (CK .u8 16 (fun p => C (m + p)))]) ⟨?_, .low _ (lowB CK_B _), trivial⟩)
    have := Fzn.sl (h := WP H tg) H.length 0 16 16 1 true false tg (rd_allc (WP_at ..) lt) (fun _ => rfl) (isK_low hT.1)
    rw [chunk_one 16 tg lt] at this
    have e2 : CK .u8 16 (intAt tg) = tg := cellsK_eq hT.1
    rw [e2]; exact this
  refine hE.mono ?_
  rintro r h3 ⟨rfl, hh⟩
  rw [hh]; clear hh h3
  rw [← heq]
  cases hq : eqF z kc n ad m C with
  | false =>
    simp
    exact h2 hq _ _ (by simp) (by simp)
  | true =>
    have q0 : rd (WP H tg) (.ptr 0 0) 32 = some kc := rd_allc (by rw [WP_old _ (by omega)]; exact g0) (isK_len hk)
    have q1 : rd (WP H tg) (.ptr 1 32) 12 = some (nonV n) := by
      rw [rd_drop (h := WP H tg) (b := 1) (ty := none) (by rw [WP_old _ (by omega)]; exact g1) (isK_len hlk)]
      simp [lkF, isK_len hk]
    simp [E13]
    refine vD_lin ?_
    simp [reL, vLs, vLg, vLq, dstO, nth_zero, nth_succ, nd, tell, fadV, asV, t3, t4, t10, t11, q0, q1, sh, V.isStr, n0]
    refine (xor_run (h := WP H tg) hk (nonV_is n) (by omega)).mono ?_
    rintro r h3 ⟨rfl, g2, hF⟩
    simp
    exact h1 hq _ _ _ (by simp) (by simp) g2
theorem resV_tt {t : Nat → V} {h : Hp} {a b : V} (h8 : t 8 = a) (h9 : t 9 = b) : resV [.t 8, .t 9] t h = some (.tup [a, b]) := by
  subst h8 h9; rfl
theorem open_run {z kc ad : List V} {n : Int} {m : Nat} {C : Nat → Int} (hk : isK .u8 32 kc = true) (ha : isB ad) (la : ad.length ≤ 60000) (hm : m ≤ 60000) :
    ACalls (BX z) 13 [.agg kc, .int .u64 n, .lst false ad, .lst false (CK .u8 (m + 16) C)] [] fun r h' => if eqF z kc n ad m C = true then ∃ β, r = .ret (.tup [.sl β 0 m m true 1 false, .int .i64 0]) ∧ hget h' β = some (.cells (outF z kc n m C) none) else r = .ret (.tup [.nsl, .int .i64 5]) := by
  refine acall (BX.ok z) (show ckF (BX z).P 13 F13 = true from ck13) rfl ?_
  have o1 : (∀ c ∈ kc, c.one = true) = True := eq_true (one_of hk)
  have hla : ∀ h, lenV h .slc (.lst false ad) = some (.int .i64 (ad.length : Int)) := fun h => rfl
  obtain ⟨q, hq⟩ : ∃ q, q = m + 16 := ⟨_, rfl⟩
  rw [← hq]
  have hlm : ∀ h, lenV h .slc (.lst false (CK .u8 q C)) = some (.int .i64 (q : Int)) := fun h => by show some _ = some _; simp [CK_len]
  have a1 : ¬ (60000 : Int) < (ad.length : Int) := by omega
  have a2 : ¬ 60000 < ad.length := by omega
  have a3 : (ad.length : Int) ≤ 60000 := by omega
  have w1 : IntKind.i64.wrap ((q : Int) - 16) = (m : Int) := by rw [wrap64 (by omega) (by omega)]; omega
  have m1 : ¬ (60000 : Int) < (m : Int) := by omega
  have m2 : ¬ 60000 < m := by omega
  have m3 : (m : Int) ≤ 60000 := by omega
  have m4 : ¬ (m : Int) < 0 := by omega
  have r0 : ∀ l, rd (some (.cells kc none) :: l) (.ptr 0 0) 32 = some kc := fun l => rd_allc rfl (isK_len hk)
  simp only [F13_eq, F13']
  simp [V.cells, o1, hla, hlm, a1, a2, a3, w1, m1, m2, m3, m4, r0, asV]
  refine (PCalls.at (BX.low z) ((locked_run (n := n) hk).up (BX.up z)) (fun v hv => by
    simp at hv; rcases hv with rfl | rfl
    · exact .agg _ (isK_low hk)
    · exact .int _ _) _).mono ?_
  rintro v h' ⟨rfl, rfl⟩
  have hlk := lkF_is (n := n) hk
  have sL : stV [some (.cells kc none), some (.cells (zU 44) none)] 44 (.ptr 1 0) (.agg (lkF kc n)) = some (.skip [some (.cells kc none), some (.cells (lkF kc n) none)]) := st_all (n := 44) (old := zU 44) (ty := none) rfl rfl (isK_len hlk) (one_of hlk)
  simp [sL]
  refine open_D (C := C) hk ha la hm (by simp) (by simp [← hq]) (by simp) (by simp) (by simp) (fun he t' h' β t8 t9 hg => ?_) (fun he t' h' t8 t9 => ?_)
  · refine ⟨rfl, _, resV_tt t8 t9, ?_⟩
    simp only [he, if_true]
    exact ⟨β, rfl, hg⟩
  · refine ⟨rfl, _, resV_tt t8 t9, ?_⟩
    simp only [he]; simp
theorem open_bad {z kc ad : List V} {n : Int} {m : Nat} {C : Nat → Int} (hk : isK .u8 32 kc = true) (ha : isB ad) (la : ad.length ≤ 60000) (hm : m ≤ 60000) (he : eqF z kc n ad m C = false) :
    PCalls (BX z) 13 [.agg kc, .int .u64 n, .lst false ad, .lst false (CK .u8 (m + 16) C)] fun r => r = .ret (.tup [.nsl, .int .i64 5]) := by
  refine PCalls.of ((open_run hk ha la hm).mono fun r h' hr => ?_) fun r hr => by subst hr; exact .tup _ (by simp; exact ⟨.nsl, .int _ _⟩)
  rw [he] at hr
  exact hr
theorem open_good {z kc ad : List V} {n : Int} {m : Nat} {C : Nat → Int} (hk : isK .u8 32 kc = true) (ha : isB ad) (la : ad.length ≤ 60000) (hm : m ≤ 60000) (he : eqF z kc n ad m C = true) :
    PCalls (BX z) 13 [.agg kc, .int .u64 n, .lst false ad, .lst false (CK .u8 (m + 16) C)] fun r => r = .ret (.tup [.lst false (outF z kc n m C), .int .i64 0]) := by
  refine ((open_run hk ha la hm).mono (R' := fun r h' => ∃ β, r = .ret (.tup [.sl β 0 m m true 1 false, .int .i64 0]) ∧ hget h' β = some (.cells (outF z kc n m C) none)) fun r h' hr => by rw [if_pos he] at hr; exact hr).ice ?_
  rintro r h' ⟨β, rfl, hg⟩
  refine ⟨Nat.zero_le _, LowH.zero _, .ret (.tup [.lst false (outF z kc n m C), .int .i64 0]), ?_, rfl, by simp⟩
  have hB := outF_B z kc n m C
  have hl := outF_len z kc n m C
  have h2 : ∀ y ∈ outF z kc n m C, Low 0 y := fun y hy => by obtain ⟨n, rfl⟩ := hB y hy; exact .int _ _
  have hi := Ice.sl (h := h') (k := 0) β 0 m m true 1 false _ none (outF z kc n m C) (outF z kc n m C) (Nat.zero_le _) hg (by
    unfold sub; rw [if_pos (by omega), List.drop_zero, Nat.mul_one, List.take_of_length_le (by omega)]) (fun _ => rfl) rfl (fun j x y hx hy => by rw [hx] at hy; cases hy; exact .low _ (h2 _ (List.mem_of_getElem? hx))) (fun c hc => by obtain ⟨n, rfl⟩ := hB c hc; rfl)
  rw [chunk_one m _ hl] at hi
  refine .tup _ _ rfl fun j a b ha hb => ?_
  match j with
  | 0 => simp at ha hb; subst ha hb; exact hi
  | 1 => simp at ha hb; subst ha hb; exact .low _ (.int _ _)
  | j + 2 => simp at ha
end Go.Proofs.YtfinnljkcgglfaaDoor
namespace Go.Proofs.YtfinnljkcgglfaaDoor
open Go Go.Vs Go.RowKit
set_option maxRecDepth 100000
set_option linter.unusedSimpArgs false
set_option linter.unusedVariables false
attribute [local simp] unV extV wanted strBin vpt vpn vmp nilV_ptr vic vsn

theorem bytes_CK (s : List UInt8) : CK .u8 s.length (intAt (bytesV s)) = bytesV s := cellsK_eq (isK_mk (by simp [bytesV]) (isB_bytes s))
theorem b2s_lst {h : Hp} {cs : List V} {ex : Bool} (hB : isB cs) : b2sV h (.lst ex cs) = some (.str (strC cs)) := by
  have h1 : src h 1 (.lst ex cs) = some (cs.length, cs) := (sl_lst hB).1
  simp only [b2sV, V.isStr, h1]
  rw [if_neg (by decide), if_pos (fun v hv => by obtain ⟨n, rfl⟩ := hB v hv; rfl)]
  rfl
/-! ### what layer 7 answers, of texts -/
noncomputable def sealT (z kc : List V) (n : Int) (ad tx : List UInt8) : List V := boxF z kc n (bytesV ad) tx.length (intAt (bytesV tx))
theorem sealT_B {z kc : List V} {n : Int} {ad tx : List UInt8} (hk : isK .u8 32 kc = true) (la : ad.length ≤ 60000) (lx : tx.length ≤ 60000) : isB (sealT z kc n ad tx) ∧ (sealT z kc n ad tx).length = tx.length + 16 := boxF_B hk (isB_bytes ad) (by simpa [bytesV] using la) lx
theorem aseal_spec {z kc : List V} {n : Int} {ad tx : List UInt8} (hk : isK .u8 32 kc = true) (la : ad.length ≤ 60000) (lx : tx.length ≤ 60000) :
    PCalls (BX z) 12 [.agg kc, .int .u64 n, .lst false (bytesV ad), .lst false (bytesV tx)] fun r => r = .ret (.tup [.lst false (sealT z kc n ad tx), .int .i64 0]) := by
  have := seal_spec' (z := z) (n := n) (B := intAt (bytesV tx)) hk (isB_bytes ad) (by simpa [bytesV] using la) lx
  rwa [bytes_CK] at this
noncomputable def openT (z kc : List V) (n : Int) (ad bx : List UInt8) : V × Int :=
  if bx.length < 16 then (.nsl, 4) else if eqF z kc n (bytesV ad) (bx.length - 16) (intAt (bytesV bx)) = true then (.lst false (outF z kc n (bx.length - 16) (intAt (bytesV bx))), 0) else (.nsl, 5)
noncomputable def openS (z kc : List V) (n : Int) (ad bx : List UInt8) : List UInt8 := match (openT z kc n ad bx).1 with
  | .lst _ cs => strC cs
  | _ => []
theorem openT_b2s (z kc : List V) (n : Int) (ad bx : List UInt8) (h : Hp) : b2sV h (openT z kc n ad bx).1 = some (.str (openS z kc n ad bx)) := by
  unfold openS openT
  split
  · rfl
  · split
    · exact b2s_lst (outF_B _ _ _ _ _)
    · rfl
theorem aopen_spec {z kc : List V} {n : Int} {ad bx : List UInt8} (hk : isK .u8 32 kc = true) (la : ad.length ≤ 60000) (lx : bx.length ≤ 60000) :
    PCalls (BX z) 13 [.agg kc, .int .u64 n, .lst false (bytesV ad), .lst false (bytesV bx)] fun r => r = .ret (.tup [(openT z kc n ad bx).1, .int .i64 (openT z kc n ad bx).2]) := by
  have hla : (bytesV ad).length ≤ 60000 := by simpa [bytesV] using la
  by_cases h : bx.length < 16
  · have := open_short (z := z) (n := n) (C := intAt (bytesV bx)) hk (isB_bytes ad) hla h
    rw [bytes_CK] at this
    unfold openT
    rw [if_pos h]; exact this
  · have e : bx.length - 16 + 16 = bx.length := by omega
    unfold openT
    rw [if_neg h]
    cases he : eqF z kc n (bytesV ad) (bx.length - 16) (intAt (bytesV bx)) with
    | true =>
      have := open_good (z := z) (n := n) (m := bx.length - 16) (C := intAt (bytesV bx)) hk (isB_bytes ad) hla (by omega) he
      rw [e, bytes_CK] at this
      simpa using this
    | false =>
      have := open_bad (z := z) (n := n) (m := bx.length - 16) (C := intAt (bytesV bx)) hk (isB_bytes ad) hla (by omega) he
      rw [e, bytes_CK] at this
      simpa using this
theorem sealArgs {kc : List V} {n : Int} {ad tx : List UInt8} (hk : isK .u8 32 kc = true) : ∀ v ∈ [V.agg kc, .int .u64 n, .lst false (bytesV ad), .lst false (bytesV tx)], Low 0 v := fun v hv => by
  simp at hv; rcases hv with rfl | rfl | rfl | rfl
  · exact low_agg hk
  · exact .int _ _
  · exact lowB (isB_bytes _) _
  · exact lowB (isB_bytes _) _
/-! ### those of texts -/
noncomputable def rSeal (z : List V) (s : List UInt8) (n : Int) (ad tx : List UInt8) : List UInt8 := if s.length = 32 then strC (sealT z (kz s) n ad tx) else []
theorem realSeal {z : List V} {s ad tx : List UInt8} {n : Int} (la : ad.length ≤ 60000) (lx : tx.length ≤ 60000) : PCalls (BX z) 79 [.agg [], .str s, .int .u64 n, .str ad, .str tx] fun r => r = .ret (.str (rSeal z s n ad tx)) := by
  refine PCalls.of (acall (BX.ok z) (show ckF (BX z).P 79 F79 = true from ck79) rfl ?_) fun r hr => by subst hr; exact .str _
  simp [F79, V.cells]
  refine (PCalls.at (BX.low z) ((pkey_spec s).up (BX.up z)) (fun v hv => by simp at hv; subst hv; exact .str _) _).mono ?_
  rintro r h' ⟨rfl, rfl⟩
  have s1 : ∀ A Z : List V, Z.length = 32 → ∀ c, isK .u8 32 c = true → stV [some (.cells A none), some (.cells Z none)] 32 (.ptr 1 0) (.agg c) = some (.skip [some (.cells A none), some (.cells c none)]) := fun A Z hZ c hc => by rw [stB32 rfl hZ hc]; rfl
  have r1 : ∀ A : List V, rd [some (.cells A none), some (.cells (kz s) none)] (.ptr 1 0) 32 = some (kz s) := fun A => rd_allc rfl (isK_len (kz_is s))
  simp [s1, kz_is, r1, asV, s2b_t]
  refine (PCalls.at (BX.low z) (aseal_spec (n := n) (kz_is s) la lx) (sealArgs (kz_is s)) _).mono ?_
  rintro r h' ⟨rfl, rfl⟩
  have hb := b2s_lst (h := [some (.cells [] none), some (.cells (kz s) none)]) (ex := false) (sealT_B (z := z) (n := n) (kz_is s) la lx).1
  by_cases h : s.length = 32
  · simp [h, hb, rSeal]
  · simp [h, rSeal]
noncomputable def rOpen (z : List V) (s : List UInt8) (n : Int) (ad bx : List UInt8) : List UInt8 × Int := if s.length = 32 then (openS z (kz s) n ad bx, (openT z (kz s) n ad bx).2) else ([], 6)
theorem realOpen {z : List V} {s ad bx : List UInt8} {n : Int} (la : ad.length ≤ 60000) (lx : bx.length ≤ 60000) : PCalls (BX z) 77 [.agg [], .str s, .int .u64 n, .str ad, .str bx] fun r => r = .ret (.tup [.str (rOpen z s n ad bx).1, .int .i64 (rOpen z s n ad bx).2]) := by
  refine PCalls.of (acall (BX.ok z) (show ckF (BX z).P 77 F77 = true from ck77) rfl ?_) fun r hr => by subst hr; exact .tup _ (by simp; exact ⟨.str _, .int _ _⟩)
  simp [F77, V.cells]
  refine (PCalls.at (BX.low z) ((pkey_spec s).up (BX.up z)) (fun v hv => by simp at hv; subst hv; exact .str _) _).mono ?_
  rintro r h' ⟨rfl, rfl⟩
  have s1 : ∀ A Z : List V, Z.length = 32 → ∀ c, isK .u8 32 c = true → stV [some (.cells A none), some (.cells Z none)] 32 (.ptr 1 0) (.agg c) = some (.skip [some (.cells A none), some (.cells c none)]) := fun A Z hZ c hc => by rw [stB32 rfl hZ hc]; rfl
  have r1 : ∀ A : List V, rd [some (.cells A none), some (.cells (kz s) none)] (.ptr 1 0) 32 = some (kz s) := fun A => rd_allc rfl (isK_len (kz_is s))
  by_cases h : s.length = 32
  · simp [s1, kz_is, r1, asV, s2b_t, h]
    refine (PCalls.at (BX.low z) (aopen_spec (n := n) (kz_is s) la lx) (sealArgs (kz_is s)) _).mono ?_
    rintro r h' ⟨rfl, rfl⟩
    simp [openT_b2s, rOpen, h]
  · simp [s1, kz_is, h, rOpen]
end Go.Proofs.YtfinnljkcgglfaaDoor
namespace Go.Proofs.YtfinnljkcgglfaaDoor
open Go Go.Vs Go.RowKit
set_option maxRecDepth 100000
set_option linter.unusedSimpArgs false
set_option linter.unusedVariables false

/-- A byte. -/
def Byt (v : V) : Prop := ∃ m : Nat, m < 256 ∧ v = .int .u8 m
theorem u8_small {n : Nat} (h : n < 256) : IntKind.u8.wrap (n : Int) = n := by
  rw [IntKind.wrap]
  simp [IntKind.bits, IntKind.signed]
  omega
theorem xoE_nat {a b : Nat} (ha : a < 256) (hb : b < 256) : xoE (a : Int) (b : Int) = ((a ^^^ b : Nat) : Int) := by
  have h8 : IntKind.u8.bits = 8 := rfl
  have e1 : ((a : Int) % 2 ^ IntKind.u8.bits).toNat = a := by rw [h8]; omega
  have e2 : ((b : Int) % 2 ^ IntKind.u8.bits).toNat = b := by rw [h8]; omega
  have h : a ^^^ b < 256 := Nat.xor_lt_two_pow (n := 8) ha hb
  unfold xoE
  rw [e1, e2, u8_small h]
theorem xoE_mod (a s : Int) : xoE a s = xoE a ((s % 256).toNat : Nat) := by
  have h8 : IntKind.u8.bits = 8 := rfl
  have e : ((((s % 256).toNat : Nat) : Int) % 2 ^ IntKind.u8.bits).toNat = (s % 2 ^ IntKind.u8.bits).toNat := by rw [h8]; omega
  unfold xoE
  rw [e]
theorem xoE_byte (a s : Int) : ∃ m : Nat, m < 256 ∧ xoE a s = (m : Int) := by
  obtain ⟨x, hx⟩ : ∃ x : Nat, x = ((a % 2 ^ IntKind.u8.bits).toNat ^^^ (s % 2 ^ IntKind.u8.bits).toNat) := ⟨_, rfl⟩
  refine ⟨x % 256, by omega, ?_⟩
  unfold xoE
  rw [← hx, IntKind.wrap]
  simp [IntKind.bits, IntKind.signed]
theorem xoE_back {b : Nat} (hb : b < 256) (s : Int) : xoE (xoE (b : Int) s) s = (b : Int) := by
  have ht : (s % 256).toNat < 256 := by omega
  obtain ⟨t, et⟩ : ∃ t, t = (s % 256).toNat := ⟨_, rfl⟩
  rw [← et] at ht
  have h : b ^^^ t < 256 := Nat.xor_lt_two_pow (n := 8) hb ht
  rw [xoE_mod, ← et, xoE_mod b s, ← et, xoE_nat hb ht, xoE_nat h ht, Nat.xor_assoc, Nat.xor_self, Nat.xor_zero]
theorem intAt_CK {k : IntKind} {n p : Nat} {A : Nat → Int} (h : p < n) : intAt (CK k n A) p = A p := by
  unfold intAt
  rw [List.getD, CK_get h]; rfl
theorem intAt_left {a b : List V} {p : Nat} (h : p < a.length) : intAt (a ++ b) p = intAt a p := by
  unfold intAt
  rw [List.getD, List.getD, List.getElem?_append_left h]
theorem intAt_right {a b : List V} {m p : Nat} (h : a.length = m) : intAt (a ++ b) (m + p) = intAt b p := by
  unfold intAt
  rw [List.getD, List.getD, List.getElem?_append_right (by omega)]
  congr 3; omega
theorem CK_congr {n : Nat} {A B : Nat → Int} (h : ∀ p, p < n → A p = B p) : CK .u8 n A = CK .u8 n B := by
  unfold CK
  refine List.map_congr_left fun i hi => ?_
  rw [h i (by simpa using hi)]
theorem strC_back {cs : List V} (h : ∀ v ∈ cs, Byt v) : bytesV (strC cs) = cs := by
  induction cs with
  | nil => rfl
  | cons a r ih =>
    obtain ⟨m, hm, rfl⟩ := h a (List.mem_cons_self ..)
    have := ih fun v hv => h v (List.mem_cons_of_mem _ hv)
    unfold bytesV strC at this ⊢
    simp only [List.map_cons, this]
    congr 2
    simp
    omega
theorem bytes_strC (s : List UInt8) : strC (bytesV s) = s := by
  induction s with
  | nil => rfl
  | cons a r ih =>
    unfold bytesV strC at ih ⊢
    simp only [List.map_cons, ih]
    simp
theorem eqX_congr {A B A' B' : Nat → Int} : ∀ n, (∀ p, p < n → A p = A' p) → (∀ p, p < n → B p = B' p) → eqX A B n = eqX A' B' n
  | 0, _, _ => rfl
  | n + 1, h, g => by
    simp only [eqX, eqX_congr n (fun p hp => h p (by omega)) (fun p hp => g p (by omega)), h n (by omega), g n (by omega)]
theorem bytes_at (s : List UInt8) {p : Nat} (h : p < s.length) : ∃ m : Nat, m < 256 ∧ intAt (bytesV s) p = (m : Int) := by
  refine ⟨(s[p]).toNat, UInt8.toNat_lt _, ?_⟩
  unfold intAt bytesV
  rw [List.getD, List.getElem?_map, List.getElem?_eq_getElem h]; rfl
theorem boxF_byte {z kc ad : List V} {n : Int} {m : Nat} {B : Nat → Int} (hk : isK .u8 32 kc = true) (ha : isB ad) (la : ad.length ≤ 60000) (hm : m ≤ 60000) : ∀ v ∈ boxF z kc n ad m B, Byt v := fun v hv => by
  rcases List.mem_append.1 hv with hv | hv
  · unfold outF CK at hv
    obtain ⟨i, _, rfl⟩ := List.mem_map.1 hv
    obtain ⟨q, hq, e⟩ := xoE_byte (B i) (strE z kc (nonV n) 1 i)
    exact ⟨q, hq, by unfold xrE; rw [e]⟩
  · exact lsF_byte (lkF_is (n := n) hk) ha (outF_B z kc n m B) (by omega) (by rw [outF_len]; omega) v hv
/-- The text is back. -/
theorem outF_back {z kc ad : List V} {n : Int} {tx : List UInt8} : outF z kc n tx.length (intAt (boxF z kc n ad tx.length (intAt (bytesV tx)))) = bytesV tx := by
  have e : bytesV tx = CK .u8 tx.length (intAt (bytesV tx)) := (bytes_CK tx).symm
  rw [e]
  unfold outF
  refine CK_congr fun p hp => ?_
  obtain ⟨b, hb, eb⟩ := bytes_at tx hp
  have h1 : intAt (boxF z kc n ad tx.length (intAt (CK .u8 tx.length (intAt (bytesV tx))))) p = xoE (b : Int) (strE z kc (nonV n) 1 p) := by
    unfold boxF
    rw [intAt_left (by rw [outF_len]; exact hp)]
    unfold outF
    rw [intAt_CK hp]
    unfold xrE
    rw [intAt_CK hp, eb]
  unfold xrE
  rw [h1, xoE_back hb, eb]
theorem eqF_back {z kc ad : List V} {n : Int} {m : Nat} {B : Nat → Int} : eqF z kc n ad m (intAt (boxF z kc n ad m B)) = true := by
  have h1 : CK .u8 m (intAt (boxF z kc n ad m B)) = outF z kc n m B := by
    unfold outF
    refine CK_congr fun p hp => ?_
    unfold boxF
    rw [intAt_left (by rw [outF_len]; exact hp)]
    unfold outF
    rw [intAt_CK hp]
  unfold eqF
  rw [h1]
  rw [eqX_congr (A' := intAt (lsF z (lkF kc n) ad (outF z kc n m B))) (B' := intAt (lsF z (lkF kc n) ad (outF z kc n m B))) 16 (fun _ _ => rfl) (fun p _ => by unfold boxF; exact intAt_right (outF_len ..)), eqX_self]
  rfl
theorem open_back {z kc : List V} {n : Int} {ad tx : List UInt8} (hk : isK .u8 32 kc = true) (la : ad.length ≤ 60000) (lx : tx.length ≤ 60000) : openT z kc n ad (strC (sealT z kc n ad tx)) = (.lst false (bytesV tx), 0) := by
  have hla : (bytesV ad).length ≤ 60000 := by simpa [bytesV] using la
  have hB := sealT_B (z := z) (n := n) hk la lx
  have hl : (strC (sealT z kc n ad tx)).length = tx.length + 16 := by simp [strC, hB.2]
  have hb : bytesV (strC (sealT z kc n ad tx)) = sealT z kc n ad tx := strC_back (boxF_byte hk (isB_bytes ad) hla lx)
  have e : tx.length + 16 - 16 = tx.length := by omega
  unfold openT
  rw [hl, hb, e, if_neg (by omega)]
  unfold sealT
  rw [eqF_back, if_pos rfl, outF_back]
/-- With the same key, number and ad. -/
theorem real_back {z : List V} {s ad tx : List UInt8} {n : Int} (hs : s.length = 32) (la : ad.length ≤ 60000) (lx : tx.length ≤ 60000) : rOpen z s n ad (rSeal z s n ad tx) = (tx, 0) := by
  unfold rOpen rSeal openS
  rw [if_pos hs, if_pos hs, open_back (kz_is s) la lx]
  show (strC (bytesV tx), (0 : Int)) = (tx, 0)
  rw [bytes_strC]
theorem real_some {z : List V} {s ad tx : List UInt8} {n : Int} (hs : s.length = 32) (la : ad.length ≤ 60000) (lx : tx.length ≤ 60000) : (rSeal z s n ad tx).length = tx.length + 16 := by
  unfold rSeal
  rw [if_pos hs]
  simp [strC, (sealT_B (z := z) (n := n) (kz_is s) la lx).2]
end Go.Proofs.YtfinnljkcgglfaaDoor
