/- aead's Open: one answer. -/
import Derived.Test.YtfinnljkcgglfaaDoorZmGJ
set_option linter.unusedSimpArgs false
set_option linter.unusedVariables false
namespace Go.Proofs.YtfinnljkcgglfaaDoor
open Go Go.Vs Go.RowKit
set_option maxRecDepth 100000
set_option linter.unusedSimpArgs false
set_option linter.unusedVariables false
attribute [local simp] unV extV wanted strBin vpt vpn vmp nilV_ptr vic vsn

def E13 : C := (.seq (.dreg [⟨some 42, .load 32 true (.t 4), none⟩,
 ⟨some 43, .fad 32 (.t 11), none⟩,
 ⟨some 44, .load 12 true (.t 43), none⟩,
 ⟨some 45, .mov (.t 3), none⟩,
 ⟨some 46, .mov (.t 10), none⟩,
 ⟨some 47, .slc false 1 (.t 45) none (some (.t 46)) none, none⟩,
 ⟨some 48, .call (.k (.fn (.func 16) [] [])) [(.t 42), (.t 44), (.k (.int .u32 1)), (.t 47)], none⟩,
 ⟨some 49, .ext (.t 48) 0, none⟩,
 ⟨some 50, .ext (.t 48) 1, none⟩,
 ⟨some 8, .mov (.t 49), none⟩,
 ⟨some 9, .mov (.t 50), none⟩] (.lin [] [(0, none), (1, none), (2, none), (3, none), (4, none), (5, none), (6, some []), (7, none), (8, none), (9, none), (10, none)]))
 .ret)
def D13 : C := (.seq (.seq (.dreg [⟨some 30, .load 44 true (.t 11), none⟩,
 ⟨some 31, .mov (.t 2), none⟩,
 ⟨some 32, .mov (.t 3), none⟩,
 ⟨some 33, .mov (.t 10), none⟩,
 ⟨some 34, .slc false 1 (.t 32) none (some (.t 33)) none, none⟩,
 ⟨some 35, .call (.k (.fn (.func 17) [] [])) [(.t 30), (.t 31), (.t 34)], none⟩,
 ⟨some 12, .new (zU 16) none, none⟩,
 ⟨none, .store 16 (.t 12) (.t 35), none⟩] (.lin [6] [(0, none), (1, none), (2, none), (3, none), (4, none), (5, some []), (7, some [])]))
 (.seq (.dreg [⟨some 36, .slca 16 1 false (.t 12) none none none, none⟩,
 ⟨some 37, .mov (.t 3), none⟩,
 ⟨some 38, .mov (.t 10), none⟩,
 ⟨some 39, .slc false 1 (.t 37) (some (.t 38)) none none, none⟩,
 ⟨some 40, .call (.k (.fn (.func 18) [] [])) [(.t 36), (.t 39)], none⟩,
 ⟨some 41, .un .not (.t 40), none⟩] (.lin [] [(0, none), (1, none), (2, none), (3, none), (4, some []), (5, none)]))
 (.cond (.t 41)
 (.seq (.reg [⟨some 8, .mov (.k .nsl), none⟩,
 ⟨some 9, .mov (.k (.int .i64 5)), none⟩])
 .ret)
 .skip)))
 E13)
def F13' : Fun :=
 ⟨51, 4, [.t 8, .t 9],
 (.seq (.reg [⟨some 4, .box none (.t 0), none⟩,
 ⟨some 8, .mov (.k .nsl), none⟩,
 ⟨some 9, .mov (.k (.int .i64 0)), none⟩])
 (.seq (.reg [⟨some 13, .mov (.t 3), none⟩,
 ⟨some 14, .len .slc (.t 13), none⟩,
 ⟨some 15, .bin .sub .num (.t 14) (.k (.int .i64 16)), none⟩,
 ⟨some 10, .mov (.t 15), none⟩])
 (.seq (.block 0
 (.seq (.reg [⟨some 17, .mov (.t 2), none⟩,
 ⟨some 18, .len .slc (.t 17), none⟩,
 ⟨some 19, .bin .gtr .num (.t 18) (.k (.int .i64 60000)), none⟩,
 ⟨some 20, .mov (.t 19), none⟩,
 ⟨some 21, .mov (.t 10), some (20, false)⟩,
 ⟨some 22, .bin .gtr .num (.t 21) (.k (.int .i64 60000)), some (20, false)⟩,
 ⟨some 23, .pick (.t 20) (.k (.bool true)) (.t 22), none⟩,
 ⟨some 16, .mov (.t 23), none⟩])
 (.cond (.t 16)
 (.seq (.reg [⟨some 8, .mov (.k .nsl), none⟩,
 ⟨some 9, .mov (.k (.int .i64 3)), none⟩])
 .ret)
 (.seq (.reg [⟨some 25, .mov (.t 10), none⟩,
 ⟨some 26, .bin .lss .num (.t 25) (.k (.int .i64 0)), none⟩,
 ⟨some 24, .mov (.t 26), none⟩])
 (.cond (.t 24)
 (.seq (.reg [⟨some 8, .mov (.k .nsl), none⟩,
 ⟨some 9, .mov (.k (.int .i64 4)), none⟩])
 .ret)
 .skip)))))
 (.seq (.reg [⟨some 27, .load 32 true (.t 4), none⟩,
 ⟨some 28, .mov (.t 1), none⟩,
 ⟨some 29, .call (.k (.fn (.func 15) [] [])) [(.t 27), (.t 28)], none⟩,
 ⟨some 11, .new (zU 44) none, none⟩,
 ⟨none, .store 44 (.t 11) (.t 29), none⟩])
 D13))))⟩
def F13 : Fun := F13'
theorem F13_eq : F13 = F13' := rfl
theorem ck13 : ckF Tryd.prog 13 F13 = true := by kernel_rfl


theorem slc_hi {bs : List V} (hB : isB bs) {n : Nat} (h : n ≤ bs.length) : slcV 1 (.lst false bs) 0 (some n) none = some (.lst false (bs.take n)) := by
  simp only [slcV, Option.getD_some]
  rw [if_pos ⟨by omega, h, isB_len hB⟩]
  simp [upTo]
theorem slc_lo {bs : List V} (hB : isB bs) {n : Nat} (h : n ≤ bs.length) : slcV 1 (.lst false bs) n none none = some (.lst false (bs.drop n)) := by
  simp only [slcV, Option.getD_none]
  rw [if_pos ⟨by omega, by simp, isB_len hB⟩]
  simp [upTo]
theorem CK_take {n m : Nat} {C : Nat → Int} (h : m ≤ n) : (CK .u8 n C).take m = CK .u8 m C := by
  refine List.ext_getElem? fun j => ?_
  rw [List.getElem?_take]
  by_cases hj : j < m
  · rw [if_pos hj, CK_get hj, CK_get (by omega)]
  · rw [if_neg hj, List.getElem?_eq_none (by rw [CK_len]; omega)]
theorem CK_drop {n m : Nat} {C : Nat → Int} : (CK .u8 (m + n) C).drop m = CK .u8 n (fun p => C (m + p)) := by
  refine List.ext_getElem? fun j => ?_
  rw [List.getElem?_drop]
  by_cases hj : j < n
  · rw [CK_get hj, CK_get (by omega)]
  · rw [List.getElem?_eq_none (by rw [CK_len]; omega), List.getElem?_eq_none (by rw [CK_len]; omega)]
/-- Is this the tag? -/
noncomputable def eqF (z kc : List V) (n : Int) (ad : List V) (m : Nat) (C : Nat → Int) : Bool := eqX (intAt (lsF z (lkF kc n) ad (CK .u8 m C))) (fun p => C (m + p)) 16 == 0
theorem open_short {z kc ad : List V} {n : Int} {m : Nat} {C : Nat → Int} (hk : isK .u8 32 kc = true) (ha : isB ad) (la : ad.length ≤ 60000) (hm : m < 16) :
    PCalls (BX z) 13 [.agg kc, .int .u64 n, .lst false ad, .lst false (CK .u8 m C)] fun r => r = .ret (.tup [.nsl, .int .i64 4]) := by
  refine PCalls.of (acall (BX.ok z) (show ckF (BX z).P 13 F13 = true from ck13) rfl ?_) fun r hr => by subst hr; exact .tup _ (by simp; exact ⟨.nsl, .int _ _⟩)
  have o1 : (∀ c ∈ kc, c.one = true) = True := eq_true (one_of hk)
  have hla : ∀ h, lenV h .slc (.lst false ad) = some (.int .i64 (ad.length : Int)) := fun h => rfl
  have hlm : ∀ h, lenV h .slc (.lst false (CK .u8 m C)) = some (.int .i64 (m : Int)) := fun h => by show some _ = some _; simp [CK_len]
  have a1 : ¬ (60000 : Int) < (ad.length : Int) := by omega
  have a2 : ¬ 60000 < ad.length := by omega
  have a3 : (ad.length : Int) ≤ 60000 := by omega
  have w1 : IntKind.i64.wrap ((m : Int) - 16) = (m : Int) - 16 := by rw [wrap64 (by omega) (by omega)]
  have m1 : ¬ (60000 : Int) < (m : Int) - 16 := by omega
  have m2 : (m : Int) - 16 < 0 := by omega
  have m3 : (m : Int) - 16 ≤ 60000 := by omega
  simp only [F13_eq, F13']
  simp [V.cells, o1, hla, hlm, a1, a2, a3, w1, m1, m2, m3]
theorem open_D {z kc ad : List V} {n : Int} {m : Nat} {C : Nat → Int} {t : Nat → V} {Q : Ex → St → Prop} (hk : isK .u8 32 kc = true) (ha : isB ad) (la : ad.length ≤ 60000) (hm : m ≤ 60000)
    (t2 : t 2 = .lst false ad) (t3 : t 3 = .lst false (CK .u8 (m + 16) C)) (t4 : t 4 = .ptr 0 0) (t10 : t 10 = .int .i64 m) (t11 : t 11 = .ptr 1 0)
    (h1 : eqF z kc n ad m C = true → ∀ t' h' β, t' 8 = .sl β 0 m m true 1 false → t' 9 = .int .i64 0 → hget h' β = some (.cells (outF z kc n m C) none) → Q .ret ⟨t', h', []⟩)
    (h2 : eqF z kc n ad m C = false → ∀ t' h', t' 8 = .nsl → t' 9 = .int .i64 5 → Q .ret ⟨t', h', []⟩) : vc (BX z) D13 Q ⟨t, [some (.cells kc none), some (.cells (lkF kc n) none)], []⟩ := by
  have hlk := lkF_is (n := n) hk
  obtain ⟨H, hH⟩ : ∃ H : Hp, H = [some (.cells kc none), some (.cells (lkF kc n) none)] := ⟨_, rfl⟩
  rw [← hH]
  have lH : H.length = 2 := by rw [hH]; rfl
  have g0 : hget H 0 = some (.cells kc none) := by rw [hH]; rfl
  have g1 : hget H 1 = some (.cells (lkF kc n) none) := by rw [hH]; rfl
  have r1 : rd H (.ptr 1 0) 44 = some (lkF kc n) := rd_allc g1 (isK_len hlk)
  have sh : slcV 1 (.lst false (CK .u8 (m + 16) C)) 0 (some m) none = some (.lst false (CK .u8 m C)) := by
    rw [slc_hi CK_B (by rw [CK_len]; omega), CK_take (by omega)]
  have sl : slcV 1 (.lst false (CK .u8 (m + 16) C)) m none none = some (.lst false (CK .u8 16 (fun p => C (m + p)))) := by
    rw [slc_lo CK_B (by rw [CK_len]; omega), CK_drop]
  have hT := lsF_spec (z := z) hlk ha (CK_B (n := m) (A := C)) (by omega : ad.length < 2 ^ 30) (by rw [CK_len]; omega)
  have lt := isK_len hT.1
  obtain ⟨tg, htg⟩ : ∃ tg, tg = lsF z (lkF kc n) ad (CK .u8 m C) := ⟨_, rfl⟩
  have heq : eqF z kc n ad m C = (eqX (intAt tg) (fun p => C (m + p)) 16 == 0) := by unfold eqF; rw [← htg]
  rw [← htg] at hT lt
  have n0 : ¬ (m : Int) < 0 := by omega
  simp only [D13]
  simp
  refine vD_lin ?_
  simp [reL, vLs, vLg, vLq, dstO, nth_zero, nth_succ, nd, tell, dstOf, A.looks, I.uses, O.use, usesO, List.filter_cons, List.filter_nil, fadV, asV, t2, t3, t10, t11, r1, sh, V.isStr, n0]
  refine (PCalls.at (BX.low z) hT.2 (fun v hv => by
    simp at hv; rcases hv with rfl | rfl | rfl
    · exact .agg _ (isK_low hlk)
    · exact lowB ha _
    · exact lowB CK_B _) H).mono ?_
  rintro r h3 ⟨rfl, hh⟩
  rw [hh]; clear hh h3
  have sT : stV (H ++ [some (.cells (zU 16) none)]) 16 (.ptr H.length 0) (.agg tg) = some (.skip (WP H tg)) := by
    rw [st_all (n := 16) (old := zU 16) (ty := none) (by simp [hget]) rfl lt (one_of hT.1)]
    simp [WP]
  have sc : slcaVV (WP H tg) 16 1 false (.ptr H.length 0) = some (.val (.sl H.length 0 16 16 true 1 false) (WP H tg)) := slcaVV_at (WP_at ..) lt
  simp [tell1, sT]
  refine vD_lin ?_
  simp [reL, vLs, vLg, vLq, dstO, nth_zero, nth_succ, nd, tell, fadV, asV, t3, t10, aop_slcaV, sc, sl, V.isStr, n0]
  have hE : ACalls (BX z) 18 [.sl H.length 0 16 16 true 1 false, .lst false (CK .u8 16 (fun p => C (m + p)))] (WP H tg) fun r h' => r = .ret (.bool (eqX (intAt tg) (fun p => C (m + p)) 16 == 0)) ∧ h' = WP H tg := by
    refine (((equal_spec (n := 16) (A := intAt tg) (B := fun p => C (m + p)) (by omega)).up (BX.up z)).frz (BX.low z) (fun r hr => by subst hr; exact .bool _) (h := WP H tg) (args := [.sl H.length 0 16 16 true 1 false, .lst false (CK .u8 16 (fun p => C (m + p)))]) ⟨?_, .low _ (lowB CK_B _), trivial⟩)
    have := Fzn.sl (h := WP H tg) H.length 0 16 16 1 true false tg (rd_allc (WP_at ..) lt) (fun _ => rfl) (isK_low hT.1)
    rw [chunk_one 16 tg lt] at this
    have e2 : CK .u8 16 (intAt tg) = tg := cellsK_eq hT.1
    rw [e2]; exact this
  refine hE.mono ?_
  rintro r h3 ⟨rfl, hh⟩
  rw [hh]; clear hh h3
  rw [← heq]
  cases hq : eqF z kc n ad m C with
  | false =>
    simp
    exact h2 hq _ _ (by simp) (by simp)
  | true =>
    have q0 : rd (WP H tg) (.ptr 0 0) 32 = some kc := rd_allc (by rw [WP_old _ (by omega)]; exact g0) (isK_len hk)
    have q1 : rd (WP H tg) (.ptr 1 32) 12 = some (nonV n) := by
      rw [rd_drop (h := WP H tg) (b := 1) (ty := none) (by rw [WP_old _ (by omega)]; exact g1) (isK_len hlk)]
      simp [lkF, isK_len hk]
    simp [E13]
    refine vD_lin ?_
    simp [reL, vLs, vLg, vLq, dstO, nth_zero, nth_succ, nd, tell, fadV, asV, t3, t4, t10, t11, q0, q1, sh, V.isStr, n0]
    refine (xor_run (h := WP H tg) hk (nonV_is n) (by omega)).mono ?_
    rintro r h3 ⟨rfl, g2, hF⟩
    simp
    exact h1 hq _ _ _ (by simp) (by simp) g2
theorem resV_tt {t : Nat → V} {h : Hp} {a b : V} (h8 : t 8 = a) (h9 : t 9 = b) : resV [.t 8, .t 9] t h = some (.tup [a, b]) := by
  subst h8 h9; rfl
theorem open_run {z kc ad : List V} {n : Int} {m : Nat} {C : Nat → Int} (hk : isK .u8 32 kc = true) (ha : isB ad) (la : ad.length ≤ 60000) (hm : m ≤ 60000) :
    ACalls (BX z) 13 [.agg kc, .int .u64 n, .lst false ad, .lst false (CK .u8 (m + 16) C)] [] fun r h' => if eqF z kc n ad m C = true then ∃ β, r = .ret (.tup [.sl β 0 m m true 1 false, .int .i64 0]) ∧ hget h' β = some (.cells (outF z kc n m C) none) else r = .ret (.tup [.nsl, .int .i64 5]) := by
  refine acall (BX.ok z) (show ckF (BX z).P 13 F13 = true from ck13) rfl ?_
  have o1 : (∀ c ∈ kc, c.one = true) = True := eq_true (one_of hk)
  have hla : ∀ h, lenV h .slc (.lst false ad) = some (.int .i64 (ad.length : Int)) := fun h => rfl
  obtain ⟨q, hq⟩ : ∃ q, q = m + 16 := ⟨_, rfl⟩
  rw [← hq]
  have hlm : ∀ h, lenV h .slc (.lst false (CK .u8 q C)) = some (.int .i64 (q : Int)) := fun h => by show some _ = some _; simp [CK_len]
  have a1 : ¬ (60000 : Int) < (ad.length : Int) := by omega
  have a2 : ¬ 60000 < ad.length := by omega
  have a3 : (ad.length : Int) ≤ 60000 := by omega
  have w1 : IntKind.i64.wrap ((q : Int) - 16) = (m : Int) := by rw [wrap64 (by omega) (by omega)]; omega
  have m1 : ¬ (60000 : Int) < (m : Int) := by omega
  have m2 : ¬ 60000 < m := by omega
  have m3 : (m : Int) ≤ 60000 := by omega
  have m4 : ¬ (m : Int) < 0 := by omega
  have r0 : ∀ l, rd (some (.cells kc none) :: l) (.ptr 0 0) 32 = some kc := fun l => rd_allc rfl (isK_len hk)
  simp only [F13_eq, F13']
  simp [V.cells, o1, hla, hlm, a1, a2, a3, w1, m1, m2, m3, m4, r0, asV]
  refine (PCalls.at (BX.low z) ((locked_run (n := n) hk).up (BX.up z)) (fun v hv => by
    simp at hv; rcases hv with rfl | rfl
    · exact .agg _ (isK_low hk)
    · exact .int _ _) _).mono ?_
  rintro v h' ⟨rfl, rfl⟩
  have hlk := lkF_is (n := n) hk
  have sL : stV [some (.cells kc none), some (.cells (zU 44) none)] 44 (.ptr 1 0) (.agg (lkF kc n)) = some (.skip [some (.cells kc none), some (.cells (lkF kc n) none)]) := st_all (n := 44) (old := zU 44) (ty := none) rfl rfl (isK_len hlk) (one_of hlk)
  simp [sL]
  refine open_D (C := C) hk ha la hm (by simp) (by simp [← hq]) (by simp) (by simp) (by simp) (fun he t' h' β t8 t9 hg => ?_) (fun he t' h' t8 t9 => ?_)
  · refine ⟨rfl, _, resV_tt t8 t9, ?_⟩
    simp only [he, if_true]
    exact ⟨β, rfl, hg⟩
  · refine ⟨rfl, _, resV_tt t8 t9, ?_⟩
    simp only [he]; simp
theorem open_bad {z kc ad : List V} {n : Int} {m : Nat} {C : Nat → Int} (hk : isK .u8 32 kc = true) (ha : isB ad) (la : ad.length ≤ 60000) (hm : m ≤ 60000) (he : eqF z kc n ad m C = false) :
    PCalls (BX z) 13 [.agg kc, .int .u64 n, .lst false ad, .lst false (CK .u8 (m + 16) C)] fun r => r = .ret (.tup [.nsl, .int .i64 5]) := by
  refine PCalls.of ((open_run hk ha la hm).mono fun r h' hr => ?_) fun r hr => by subst hr; exact .tup _ (by simp; exact ⟨.nsl, .int _ _⟩)
  rw [he] at hr
  exact hr
theorem open_good {z kc ad : List V} {n : Int} {m : Nat} {C : Nat → Int} (hk : isK .u8 32 kc = true) (ha : isB ad) (la : ad.length ≤ 60000) (hm : m ≤ 60000) (he : eqF z kc n ad m C = true) :
    PCalls (BX z) 13 [.agg kc, .int .u64 n, .lst false ad, .lst false (CK .u8 (m + 16) C)] fun r => r = .ret (.tup [.lst false (outF z kc n m C), .int .i64 0]) := by
  refine ((open_run hk ha la hm).mono (R' := fun r h' => ∃ β, r = .ret (.tup [.sl β 0 m m true 1 false, .int .i64 0]) ∧ hget h' β = some (.cells (outF z kc n m C) none)) fun r h' hr => by rw [if_pos he] at hr; exact hr).ice ?_
  rintro r h' ⟨β, rfl, hg⟩
  refine ⟨Nat.zero_le _, LowH.zero _, .ret (.tup [.lst false (outF z kc n m C), .int .i64 0]), ?_, rfl, by simp⟩
  have hB := outF_B z kc n m C
  have hl := outF_len z kc n m C
  have h2 : ∀ y ∈ outF z kc n m C, Low 0 y := fun y hy => by obtain ⟨n, rfl⟩ := hB y hy; exact .int _ _
  have hi := Ice.sl (h := h') (k := 0) β 0 m m true 1 false _ none (outF z kc n m C) (outF z kc n m C) (Nat.zero_le _) hg (by
    unfold sub; rw [if_pos (by omega), List.drop_zero, Nat.mul_one, List.take_of_length_le (by omega)]) (fun _ => rfl) rfl (fun j x y hx hy => by rw [hx] at hy; cases hy; exact .low _ (h2 _ (List.mem_of_getElem? hx))) (fun c hc => by obtain ⟨n, rfl⟩ := hB c hc; rfl)
  rw [chunk_one m _ hl] at hi
  refine .tup _ _ rfl fun j a b ha hb => ?_
  match j with
  | 0 => simp at ha hb; subst ha hb; exact hi
  | 1 => simp at ha hb; subst ha hb; exact .low _ (.int _ _)
  | j + 2 => simp at ha
end Go.Proofs.YtfinnljkcgglfaaDoor
namespace Go.Proofs.YtfinnljkcgglfaaDoor
open Go Go.Vs Go.RowKit
set_option maxRecDepth 100000
set_option linter.unusedSimpArgs false
set_option linter.unusedVariables false
attribute [local simp] unV extV wanted strBin vpt vpn vmp nilV_ptr vic vsn

theorem bytes_CK (s : List UInt8) : CK .u8 s.length (intAt (bytesV s)) = bytesV s := cellsK_eq (isK_mk (by simp [bytesV]) (isB_bytes s))
theorem b2s_lst {h : Hp} {cs : List V} {ex : Bool} (hB : isB cs) : b2sV h (.lst ex cs) = some (.str (strC cs)) := by
  have h1 : src h 1 (.lst ex cs) = some (cs.length, cs) := (sl_lst hB).1
  simp only [b2sV, V.isStr, h1]
  rw [if_neg (by decide), if_pos (fun v hv => by obtain ⟨n, rfl⟩ := hB v hv; rfl)]
  rfl
theorem b2s_nil (h : Hp) : b2sV h .nsl = some (.str []) := rfl
/-! ### what layer 7 answers, of texts -/
noncomputable def sealT (z kc : List V) (n : Int) (ad tx : List UInt8) : List V := boxF z kc n (bytesV ad) tx.length (intAt (bytesV tx))
theorem sealT_B {z kc : List V} {n : Int} {ad tx : List UInt8} (hk : isK .u8 32 kc = true) (la : ad.length ≤ 60000) (lx : tx.length ≤ 60000) : isB (sealT z kc n ad tx) ∧ (sealT z kc n ad tx).length = tx.length + 16 := boxF_B hk (isB_bytes ad) (by simpa [bytesV] using la) lx
theorem aseal_spec {z kc : List V} {n : Int} {ad tx : List UInt8} (hk : isK .u8 32 kc = true) (la : ad.length ≤ 60000) (lx : tx.length ≤ 60000) :
    PCalls (BX z) 12 [.agg kc, .int .u64 n, .lst false (bytesV ad), .lst false (bytesV tx)] fun r => r = .ret (.tup [.lst false (sealT z kc n ad tx), .int .i64 0]) := by
  have := seal_spec' (z := z) (n := n) (B := intAt (bytesV tx)) hk (isB_bytes ad) (by simpa [bytesV] using la) lx
  rwa [bytes_CK] at this
noncomputable def openT (z kc : List V) (n : Int) (ad bx : List UInt8) : V × Int :=
  if bx.length < 16 then (.nsl, 4) else if eqF z kc n (bytesV ad) (bx.length - 16) (intAt (bytesV bx)) = true then (.lst false (outF z kc n (bx.length - 16) (intAt (bytesV bx))), 0) else (.nsl, 5)
noncomputable def openS (z kc : List V) (n : Int) (ad bx : List UInt8) : List UInt8 := match (openT z kc n ad bx).1 with
  | .lst _ cs => strC cs
  | _ => []
theorem openT_b2s (z kc : List V) (n : Int) (ad bx : List UInt8) (h : Hp) : b2sV h (openT z kc n ad bx).1 = some (.str (openS z kc n ad bx)) := by
  unfold openS openT
  split
  · rfl
  · split
    · exact b2s_lst (outF_B _ _ _ _ _)
    · rfl
theorem aopen_spec {z kc : List V} {n : Int} {ad bx : List UInt8} (hk : isK .u8 32 kc = true) (la : ad.length ≤ 60000) (lx : bx.length ≤ 60000) :
    PCalls (BX z) 13 [.agg kc, .int .u64 n, .lst false (bytesV ad), .lst false (bytesV bx)] fun r => r = .ret (.tup [(openT z kc n ad bx).1, .int .i64 (openT z kc n ad bx).2]) := by
  have hla : (bytesV ad).length ≤ 60000 := by simpa [bytesV] using la
  by_cases h : bx.length < 16
  · have := open_short (z := z) (n := n) (C := intAt (bytesV bx)) hk (isB_bytes ad) hla h
    rw [bytes_CK] at this
    unfold openT
    rw [if_pos h]; exact this
  · have e : bx.length - 16 + 16 = bx.length := by omega
    unfold openT
    rw [if_neg h]
    cases he : eqF z kc n (bytesV ad) (bx.length - 16) (intAt (bytesV bx)) with
    | true =>
      have := open_good (z := z) (n := n) (m := bx.length - 16) (C := intAt (bytesV bx)) hk (isB_bytes ad) hla (by omega) he
      rw [e, bytes_CK] at this
      simpa using this
    | false =>
      have := open_bad (z := z) (n := n) (m := bx.length - 16) (C := intAt (bytesV bx)) hk (isB_bytes ad) hla (by omega) he
      rw [e, bytes_CK] at this
      simpa using this
theorem sealArgs {kc : List V} {n : Int} {ad tx : List UInt8} (hk : isK .u8 32 kc = true) : ∀ v ∈ [V.agg kc, .int .u64 n, .lst false (bytesV ad), .lst false (bytesV tx)], Low 0 v := fun v hv => by
  simp at hv; rcases hv with rfl | rfl | rfl | rfl
  · exact low_agg hk
  · exact .int _ _
  · exact lowB (isB_bytes _) _
  · exact lowB (isB_bytes _) _
/-! ### those of texts -/
noncomputable def rSeal (z : List V) (s : List UInt8) (n : Int) (ad tx : List UInt8) : List UInt8 := if s.length = 32 then strC (sealT z (kz s) n ad tx) else []
theorem realSeal {z : List V} {s ad tx : List UInt8} {n : Int} (la : ad.length ≤ 60000) (lx : tx.length ≤ 60000) : PCalls (BX z) 79 [.agg [], .str s, .int .u64 n, .str ad, .str tx] fun r => r = .ret (.str (rSeal z s n ad tx)) := by
  refine PCalls.of (acall (BX.ok z) (show ckF (BX z).P 79 F79 = true from ck79) rfl ?_) fun r hr => by subst hr; exact .str _
  simp [F79, V.cells]
  refine (PCalls.at (BX.low z) ((pkey_spec s).up (BX.up z)) (fun v hv => by simp at hv; subst hv; exact .str _) _).mono ?_
  rintro r h' ⟨rfl, rfl⟩
  have s1 : ∀ A Z : List V, Z.length = 32 → ∀ c, isK .u8 32 c = true → stV [some (.cells A none), some (.cells Z none)] 32 (.ptr 1 0) (.agg c) = some (.skip [some (.cells A none), some (.cells c none)]) := fun A Z hZ c hc => by rw [stB32 rfl hZ hc]; rfl
  have r1 : ∀ A : List V, rd [some (.cells A none), some (.cells (kz s) none)] (.ptr 1 0) 32 = some (kz s) := fun A => rd_allc rfl (isK_len (kz_is s))
  simp [s1, kz_is, r1, asV, s2b_t]
  refine (PCalls.at (BX.low z) (aseal_spec (n := n) (kz_is s) la lx) (sealArgs (kz_is s)) _).mono ?_
  rintro r h' ⟨rfl, rfl⟩
  have hb := b2s_lst (h := [some (.cells [] none), some (.cells (kz s) none)]) (ex := false) (sealT_B (z := z) (n := n) (kz_is s) la lx).1
  by_cases h : s.length = 32
  · simp [h, hb, rSeal]
  · simp [h, rSeal]
noncomputable def rOpen (z : List V) (s : List UInt8) (n : Int) (ad bx : List UInt8) : List UInt8 × Int := if s.length = 32 then (openS z (kz s) n ad bx, (openT z (kz s) n ad bx).2) else ([], 6)
theorem realOpen {z : List V} {s ad bx : List UInt8} {n : Int} (la : ad.length ≤ 60000) (lx : bx.length ≤ 60000) : PCalls (BX z) 77 [.agg [], .str s, .int .u64 n, .str ad, .str bx] fun r => r = .ret (.tup [.str (rOpen z s n ad bx).1, .int .i64 (rOpen z s n ad bx).2]) := by
  refine PCalls.of (acall (BX.ok z) (show ckF (BX z).P 77 F77 = true from ck77) rfl ?_) fun r hr => by subst hr; exact .tup _ (by simp; exact ⟨.str _, .int _ _⟩)
  simp [F77, V.cells]
  refine (PCalls.at (BX.low z) ((pkey_spec s).up (BX.up z)) (fun v hv => by simp at hv; subst hv; exact .str _) _).mono ?_
  rintro r h' ⟨rfl, rfl⟩
  have s1 : ∀ A Z : List V, Z.length = 32 → ∀ c, isK .u8 32 c = true → stV [some (.cells A none), some (.cells Z none)] 32 (.ptr 1 0) (.agg c) = some (.skip [some (.cells A none), some (.cells c none)]) := fun A Z hZ c hc => by rw [stB32 rfl hZ hc]; rfl
  have r1 : ∀ A : List V, rd [some (.cells A none), some (.cells (kz s) none)] (.ptr 1 0) 32 = some (kz s) := fun A => rd_allc rfl (isK_len (kz_is s))
  by_cases h : s.length = 32
  · simp [s1, kz_is, r1, asV, s2b_t, h]
    refine (PCalls.at (BX.low z) (aopen_spec (n := n) (kz_is s) la lx) (sealArgs (kz_is s)) _).mono ?_
    rintro r h' ⟨rfl, rfl⟩
    simp [openT_b2s, rOpen, h]
  · simp [s1, kz_is, h, rOpen]
end Go.Proofs.YtfinnljkcgglfaaDoor
namespace Go.Proofs.YtfinnljkcgglfaaDoor
open Go Go.Vs Go.RowKit
set_option maxRecDepth 100000
set_option linter.unusedSimpArgs false
set_option linter.unusedVariables false
attribute [local simp] unV extV wanted strBin vpt vpn vmp nilV_ptr vic vsn

def B4 : C := (.seq (.reg [⟨some 74, .iad 1 (.t 70) (.t 72), none⟩,
 ⟨some 75, .load 1 false (.t 74), none⟩,
 ⟨some 9, .mov (.t 75), none⟩])
 (.seq (.reg [⟨some 77, .mov (.t 3), none⟩,
 ⟨some 78, .fad 0 (.t 1), none⟩,
 ⟨some 79, .load 1 false (.t 78), none⟩,
 ⟨some 80, .fad 2 (.t 1), none⟩,
 ⟨some 81, .load 1 false (.t 80), none⟩,
 ⟨some 82, .fad 3 (.t 1), none⟩,
 ⟨some 83, .load 1 false (.t 82), none⟩,
 ⟨some 84, .mov (.t 9), none⟩,
 ⟨some 85, .inv (.t 77) "Open" [(.t 79), (.t 81), (.t 83), (.t 84)], none⟩,
 ⟨some 76, .mov (.t 85), none⟩,
 ⟨some 86, .ext (.t 76) 0, none⟩,
 ⟨some 87, .ext (.t 76) 1, none⟩,
 ⟨some 10, .mov (.t 86), none⟩,
 ⟨some 11, .mov (.t 87), none⟩])
 (.seq (.seq (.reg [⟨some 88, .mov (.t 5), none⟩,
 ⟨some 89, .un .not (.t 88), none⟩])
 (.cond (.t 89)
 (.seq (.seq (.reg [⟨some 90, .mov (.t 10), none⟩,
 ⟨some 91, .bin .neq .str (.t 90) (.k (.str [])), none⟩,
 ⟨some 92, .mov (.t 91), none⟩,
 ⟨some 93, .mov (.t 11), some (92, false)⟩,
 ⟨some 94, .bin .neq .num (.t 93) (.k (.int .i64 6)), some (92, false)⟩,
 ⟨some 95, .pick (.t 92) (.k (.bool true)) (.t 94), none⟩])
 (.cond (.t 95)
 (.seq (.reg [⟨some 2, .mov (.k (.bool false)), none⟩])
 .ret)
 .skip))
 (.exit 1))
 .skip))
 (.seq (.reg [⟨some 97, .load 32 true (.t 4), none⟩,
 ⟨some 98, .fad 2 (.t 1), none⟩,
 ⟨some 99, .load 1 false (.t 98), none⟩,
 ⟨some 100, .fad 3 (.t 1), none⟩,
 ⟨some 101, .load 1 false (.t 100), none⟩,
 ⟨some 102, .s2b true (.t 101), none⟩,
 ⟨some 103, .mov (.t 9), none⟩,
 ⟨some 104, .s2b true (.t 103), none⟩,
 ⟨some 105, .call (.k (.fn (.func 13) [] [])) [(.t 97), (.t 99), (.t 102), (.t 104)], none⟩,
 ⟨some 96, .mov (.t 105), none⟩,
 ⟨some 106, .ext (.t 96) 0, none⟩,
 ⟨some 107, .ext (.t 96) 1, none⟩,
 ⟨some 12, .mov (.t 106), none⟩,
 ⟨some 13, .mov (.t 107), none⟩])
 (.seq (.reg [⟨some 108, .mov (.t 10), none⟩,
 ⟨some 109, .mov (.t 12), none⟩,
 ⟨some 110, .b2s (.t 109), none⟩,
 ⟨some 111, .bin .neq .str (.t 108) (.t 110), none⟩,
 ⟨some 112, .mov (.t 111), none⟩,
 ⟨some 113, .mov (.t 11), some (112, false)⟩,
 ⟨some 114, .mov (.t 13), some (112, false)⟩,
 ⟨some 115, .bin .neq .num (.t 113) (.t 114), some (112, false)⟩,
 ⟨some 116, .pick (.t 112) (.k (.bool true)) (.t 115), none⟩])
 (.cond (.t 116)
 (.seq (.reg [⟨some 2, .mov (.k (.bool false)), none⟩])
 .ret)
 .skip))))))
def L4 : C := (.seq (.seq (.reg [⟨some 64, .mov (.t 6), none⟩,
 ⟨some 65, .b2s (.t 64), none⟩,
 ⟨some 66, .fad 1 (.t 1), none⟩,
 ⟨some 67, .load 1 false (.t 66), none⟩,
 ⟨some 68, .fad 4 (.t 1), none⟩,
 ⟨some 69, .load 1 false (.t 68), none⟩,
 ⟨some 70, .mks true 1 16 false [(.str []), (.str []), (.str [])] 3 [(0, (.t 65)), (1, (.t 67)), (2, (.t 69))], none⟩,
 ⟨some 71, .len .slc (.t 70), none⟩,
 ⟨some 72, .mov (.k (.int .i64 0)), none⟩])
 (.block 0
 (.loop
 (.seq (.reg [⟨some 73, .bin .lss .num (.t 72) (.t 71), none⟩])
 (.seq (.cond (.t 73)
 .skip
 (.exit 0))
 (.seq (.block 1
 B4)
 (.reg [⟨some 117, .bin .add .num (.t 72) (.k (.int .i64 1)), none⟩,
 ⟨some 72, .mov (.t 117), none⟩])))))))
 (.seq (.reg [⟨some 2, .mov (.k (.bool true)), none⟩])
 .ret))
def R4 : C := (.seq (.seq (.dreg [⟨some 51, .mov (.t 3), none⟩,
 ⟨some 52, .fad 0 (.t 1), none⟩,
 ⟨some 53, .load 1 false (.t 52), none⟩,
 ⟨some 54, .fad 2 (.t 1), none⟩,
 ⟨some 55, .load 1 false (.t 54), none⟩,
 ⟨some 56, .fad 3 (.t 1), none⟩,
 ⟨some 57, .load 1 false (.t 56), none⟩,
 ⟨some 58, .fad 4 (.t 1), none⟩,
 ⟨some 59, .load 1 false (.t 58), none⟩,
 ⟨some 60, .inv (.t 51) "Seal" [(.t 53), (.t 55), (.t 57), (.t 59)], none⟩,
 ⟨some 61, .mov (.t 6), none⟩,
 ⟨some 62, .b2s (.t 61), none⟩,
 ⟨some 63, .bin .neq .str (.t 60) (.t 62), none⟩] (.lin [] [(0, none), (1, none), (2, none), (3, none), (4, none), (5, none), (6, none), (7, none), (8, none), (10, none), (11, none), (9, some [10, 11]), (12, none)]))
 (.cond (.t 63)
 (.seq (.reg [⟨some 2, .mov (.k (.bool false)), none⟩])
 .ret)
 .skip))
 L4)
def F4' : Fun :=
 ⟨118, 1, [.t 2],
 (.seq (.reg [⟨some 1, .box none (.t 0), none⟩,
 ⟨some 2, .mov (.k (.bool false)), none⟩])
 (.seq (.seq (.reg [⟨some 14, .call (.k (.fn (.func 6) [] [])) [], none⟩,
 ⟨some 15, .un .not (.t 14), none⟩])
 (.cond (.t 15)
 (.seq (.reg [⟨some 2, .mov (.k (.bool false)), none⟩])
 .ret)
 .skip))
 (.seq (.reg [⟨some 16, .call (.k (.fn (.func 7) [] [])) [], none⟩,
 ⟨some 3, .mov (.t 16), none⟩])
 (.seq (.seq (.reg [⟨some 17, .mov (.t 3), none⟩,
 ⟨some 18, .bin .eql .ifc (.t 17) (.k .nifc), none⟩,
 ⟨some 19, .mov (.t 18), none⟩,
 ⟨some 20, .load 5 true (.t 1), some (19, false)⟩,
 ⟨some 21, .call (.k (.fn (.func 10) [] [])) [(.t 20)], some (19, false)⟩,
 ⟨some 22, .un .not (.t 21), some (19, false)⟩,
 ⟨some 23, .pick (.t 19) (.k (.bool true)) (.t 22), none⟩])
 (.cond (.t 23)
 (.seq (.reg [⟨some 24, .mov (.t 3), none⟩,
 ⟨some 25, .bin .neq .ifc (.t 24) (.k .nifc), none⟩,
 ⟨some 2, .mov (.t 25), none⟩])
 .ret)
 .skip))
 (.seq (.reg [⟨some 27, .fad 0 (.t 1), none⟩,
 ⟨some 28, .load 1 false (.t 27), none⟩,
 ⟨some 29, .call (.k (.fn (.func 11) [] [])) [(.t 28)], none⟩,
 ⟨some 26, .mov (.t 29), none⟩,
 ⟨some 30, .ext (.t 26) 0, none⟩,
 ⟨some 31, .ext (.t 26) 1, none⟩,
 ⟨some 4, .new (zU 32) none, none⟩,
 ⟨none, .store 32 (.t 4) (.t 30), none⟩,
 ⟨some 5, .mov (.t 31), none⟩])
 (.seq (.reg [⟨some 33, .load 32 true (.t 4), none⟩,
 ⟨some 34, .fad 2 (.t 1), none⟩,
 ⟨some 35, .load 1 false (.t 34), none⟩,
 ⟨some 36, .fad 3 (.t 1), none⟩,
 ⟨some 37, .load 1 false (.t 36), none⟩,
 ⟨some 38, .s2b true (.t 37), none⟩,
 ⟨some 39, .fad 4 (.t 1), none⟩,
 ⟨some 40, .load 1 false (.t 39), none⟩,
 ⟨some 41, .s2b true (.t 40), none⟩,
 ⟨some 42, .call (.k (.fn (.func 12) [] [])) [(.t 33), (.t 35), (.t 38), (.t 41)], none⟩,
 ⟨some 32, .mov (.t 42), none⟩,
 ⟨some 43, .ext (.t 32) 0, none⟩,
 ⟨some 44, .ext (.t 32) 1, none⟩,
 ⟨some 6, .mov (.t 43), none⟩,
 ⟨some 7, .mov (.t 44), none⟩])
 (.seq (.seq (.reg [⟨some 45, .mov (.t 5), none⟩,
 ⟨some 46, .un .not (.t 45), none⟩,
 ⟨some 47, .mov (.t 46), none⟩,
 ⟨some 48, .mov (.t 7), some (47, false)⟩,
 ⟨some 49, .bin .neq .num (.t 48) (.k (.int .i64 0)), some (47, false)⟩,
 ⟨some 50, .pick (.t 47) (.k (.bool true)) (.t 49), none⟩])
 (.cond (.t 50)
 (.reg [⟨some 6, .mov (.k .nsl), none⟩])
 .skip))
 R4)))))))⟩
def F4 : Fun := F4'
theorem F4_eq : F4 = F4' := rfl
theorem ck4 : ckF Tryd.prog 4 F4 = true := by kernel_rfl


def invVV (x : X) (m : String) (args : List V) : V → Option Rz
  | .ifc ty v => match x.M ty m with
    | some (f, none) => some (.call f (v :: args))
    | some (f, some off) => match v with
      | .agg cs => (cs[off]?).map fun c => .call f (c :: args)
      | _ => none
    | none => none
  | _ => none
theorem aop_invV {x : X} {t : Nat → V} {h : Hp} (r : O) (m : String) (args : List O) : aop x t h (.inv r m args) = invVV x m (evs x t args) (r.ev x t) := by
  simp only [aop, invVV]
  generalize r.ev x t = u
  cases u <;> rfl
def twoV (A B : List UInt8) (N : Nat) (Ad X : List UInt8) : List V := [.str A, .str B, .int .u64 N, .str Ad, .str X]
theorem few_spec (A B : List UInt8) (N : Nat) (Ad X : List UInt8) : PCalls DX 10 [.agg (twoV A B N Ad X)] fun r => r = .ret (.bool (decide (A.length ≤ 1000 ∧ B.length ≤ 1000 ∧ Ad.length ≤ 1000 ∧ X.length ≤ 1000))) := by
  refine PCalls.of (acall DX.ok ck10 rfl ?_) fun r hr => by subst hr; exact .bool _
  have q : ∀ o, rd [some (.cells [.str A, .str B, .int .u64 N, .str Ad, .str X] none)] (.ptr 0 o) 1 = sub [.str A, .str B, .int .u64 N, .str Ad, .str X] o 1 := fun o => by simp [rd, hget]
  simp [F10, twoV, V.cells, V.one, fadV, q, sub, asV, lenV]
  by_cases h1 : A.length ≤ 1000
  · have h1' : (A.length : Int) ≤ 1000 := by omega
    by_cases h2 : B.length ≤ 1000
    · have h2' : (B.length : Int) ≤ 1000 := by omega
      by_cases h3 : Ad.length ≤ 1000
      · have h3' : (Ad.length : Int) ≤ 1000 := by omega
        by_cases h4 : X.length ≤ 1000
        · have h4' : (X.length : Int) ≤ 1000 := by omega
          simp [h1, h1', h2, h2', h3, h3', h4, h4', fadV, q, sub, asV, lenV]
        · have h4' : ¬ (X.length : Int) ≤ 1000 := by omega
          simp [h1, h1', h2, h2', h3, h3', h4, h4', fadV, q, sub, asV, lenV]
      · have h3' : ¬ (Ad.length : Int) ≤ 1000 := by omega
        simp [h1, h1', h2, h2', h3, h3', fadV, q, sub, asV, lenV]
    · have h2' : ¬ (B.length : Int) ≤ 1000 := by omega
      simp [h1, h1', h2, h2', fadV, q, sub, asV, lenV]
  · have h1' : ¬ (A.length : Int) ≤ 1000 := by omega
    simp [h1, h1', fadV, q, sub, asV, lenV]
theorem inv_b (z : List V) (m : String) (f : FuncId) (hm : DX.M 52 m = some (f, none)) (args : List V) : invVV (BX z) m args (.ifc 52 (.agg [])) = some (.call f (.agg [] :: args)) := by
  simp only [invVV, show (BX z).M 52 m = some (f, none) from hm]
theorem realArgs (s ad x : List UInt8) (n : Int) : ∀ v ∈ [V.agg [], .str s, .int .u64 n, .str ad, .str x], Low 0 v := fun v hv => by
  simp at hv; rcases hv with rfl | rfl | rfl | rfl | rfl
  · exact .agg _ (by simp)
  · exact .str _
  · exact .int _ _
  · exact .str _
  · exact .str _
/-- One text, opened twice. -/
theorem box_round {z : List V} {A B Ad X s : List UInt8} {N : Nat} {t : Nat → V} {Q : Ex → St → Prop} (la : Ad.length ≤ 1000) (ls : s.length ≤ 60000)
    (h70 : iadV 1 (t 70) (t 72) = some (.fp [.str s] 0)) (t1 : t 1 = .ptr 0 0) (t3 : t 3 = .ifc 52 (.agg [])) (t4 : t 4 = .ptr 1 0) (t5 : t 5 = .bool (decide (A.length = 32)))
    (hQ : ∀ t', (∀ i, i = 1 ∨ i = 3 ∨ i = 4 ∨ i = 5 ∨ i = 70 ∨ i = 71 ∨ i = 72 → t' i = t i) → (A.length = 32 → Q .normal ⟨t', [some (.cells (twoV A B N Ad X) none), some (.cells (kc A) none)], []⟩) ∧ (A.length ≠ 32 → Q (.exit 1) ⟨t', [some (.cells (twoV A B N Ad X) none), some (.cells (kc A) none)], []⟩)) :
    vc (BX z) B4 Q ⟨t, [some (.cells (twoV A B N Ad X) none), some (.cells (kc A) none)], []⟩ := by
  obtain ⟨H, hH⟩ : ∃ H : Hp, H = [some (.cells (twoV A B N Ad X) none), some (.cells (kc A) none)] := ⟨_, rfl⟩
  rw [← hH] at hQ ⊢
  have q0 : rd H (.ptr 0 0) 1 = some [.str A] := by rw [hH]; rfl
  have q2 : rd H (.ptr 0 2) 1 = some [.int .u64 N] := by rw [hH]; rfl
  have q3 : rd H (.ptr 0 3) 1 = some [.str Ad] := by rw [hH]; rfl
  have qk : rd H (.ptr 1 0) 32 = some (kc A) := by rw [hH]; exact rd_allc rfl (isK_len (kc_is A))
  have rs : ∀ h, rd h (.fp [.str s] 0) 1 = some [.str s] := fun h => rfl
  simp [B4, h70, rs, asV, t1, t3, fadV, q0, q2, q3, aop_invV, inv_b z "Open" 77 rfl]
  refine (PCalls.at (BX.low z) (realOpen (n := (N : Int)) (by omega) ls) (realArgs _ _ _ _) H).mono ?_
  rintro r h' ⟨rfl, hh⟩
  rw [hh]; clear hh h'
  by_cases h : A.length = 32
  · have hk := kc_kz h
    have er : rOpen z A (N : Int) Ad s = (openS z (kc A) N Ad s, (openT z (kc A) N Ad s).2) := by unfold rOpen; rw [if_pos h, hk]
    simp [er, t5, h, t4, t1, qk, fadV, q2, q3, asV, s2b_t]
    refine (PCalls.at (BX.low z) (aopen_spec (n := (N : Int)) (kc_is A) (by omega) ls) (sealArgs (kc_is A)) H).mono ?_
    rintro r h' ⟨rfl, hh⟩
    rw [hh]; clear hh h'
    simp [openT_b2s]
    refine (hQ _ ?_).1 h
    rintro i (rfl | rfl | rfl | rfl | rfl | rfl | rfl) <;> simp
  · have er : rOpen z A (N : Int) Ad s = ([], 6) := by unfold rOpen; rw [if_neg h]
    simp [er, t5, h]
    refine (hQ _ ?_).2 h
    rintro i (rfl | rfl | rfl | rfl | rfl | rfl | rfl) <;> simp
def iBx (z : List V) (A B Ad X bx : List UInt8) (N : Nat) (k : Nat) (st : St) : Prop := ∃ i, k + i = 3 ∧ st.d = [] ∧ st.h = [some (.cells (twoV A B N Ad X) none), some (.cells (kc A) none)] ∧ st.t 1 = .ptr 0 0 ∧ st.t 3 = .ifc 52 (.agg []) ∧ st.t 4 = .ptr 1 0 ∧ st.t 5 = .bool (decide (A.length = 32)) ∧ st.t 70 = .lst true [.str bx, .str B, .str X] ∧ st.t 71 = .int .i64 3 ∧ st.t 72 = .int .i64 (i : Int)
/-- The three texts. -/
theorem box_loop {z : List V} {A B Ad X bx : List UInt8} {N : Nat} {t : Nat → V} {Q : Ex → St → Prop} {v : V} (la : Ad.length ≤ 1000) (lb : B.length ≤ 1000) (lx : X.length ≤ 1000) (lbx : bx.length ≤ 60000)
    (t6 : t 6 = v) (hv : ∀ h, b2sV h v = some (.str bx)) (t1 : t 1 = .ptr 0 0) (t3 : t 3 = .ifc 52 (.agg [])) (t4 : t 4 = .ptr 1 0) (t5 : t 5 = .bool (decide (A.length = 32)))
    (hQ : ∀ t', t' 2 = .bool true → Q .ret ⟨t', [some (.cells (twoV A B N Ad X) none), some (.cells (kc A) none)], []⟩) :
    vc (BX z) L4 Q ⟨t, [some (.cells (twoV A B N Ad X) none), some (.cells (kc A) none)], []⟩ := by
  obtain ⟨H, hH⟩ : ∃ H : Hp, H = [some (.cells (twoV A B N Ad X) none), some (.cells (kc A) none)] := ⟨_, rfl⟩
  have q1 : rd H (.ptr 0 1) 1 = some [.str B] := by rw [hH]; rfl
  have q4 : rd H (.ptr 0 4) 1 = some [.str X] := by rw [hH]; rfl
  have hl3 : ∀ h, lenV h .slc (.lst true [.str bx, .str B, .str X]) = some (.int .i64 3) := fun h => rfl
  rw [← hH]
  simp [L4, t6, hv, t1, fadV, q1, q4, asV, fillV, setAll, V.cells, V.one, chunk, hl3]
  refine vc_loop _ _ _ (iBx z A B Ad X bx N) 3 ⟨0, by simp, by simp, hH, by simp [t1], by simp [t3], by simp [t4], by simp [t5], by simp, by simp, by simp⟩ ?_
  rw [hH] at q1 q4
  clear t6 t1 t3 t4 t5 hH H q1 q4
  rintro k ⟨t, h, d⟩ ⟨i, hk, hd, hh, t1, t3, t4, t5, t70, t71, t72⟩
  simp only at hd hh t1 t3 t4 t5 t70 t71 t72
  subst hd hh
  by_cases hi : i < 3
  · have hi1 : (i : Int) < 3 := by omega
    have w1 : IntKind.i64.wrap ((i : Int) + 1) = (i : Int) + 1 := by rw [wrap64 (by omega) (by omega)]
    have hx : ∃ s : List UInt8, s.length ≤ 60000 ∧ iadV 1 (.lst true [.str bx, .str B, .str X]) (.int .i64 (i : Int)) = some (.fp [.str s] 0) := by
      rcases (show i = 0 ∨ i = 1 ∨ i = 2 by omega) with rfl | rfl | rfl
      · exact ⟨bx, lbx, rfl⟩
      · exact ⟨B, by omega, rfl⟩
      · exact ⟨X, by omega, rfl⟩
    obtain ⟨s, hs, hix⟩ := hx
    simp [t72, t71, hi1, hi]
    refine box_round la hs (by simpa [t70, t72] using hix) (by simp [t1]) (by simp [t3]) (by simp [t4]) (by simp [t5]) fun t' hT => ?_
    have e1 := hT 1 (by omega)
    have e3 := hT 3 (by omega)
    have e4 := hT 4 (by omega)
    have e5 := hT 5 (by omega)
    have e70 := hT 70 (by omega)
    have e71 := hT 71 (by omega)
    have e72 := hT 72 (by omega)
    simp at e1 e3 e4 e5 e70 e71 e72
    constructor
    · intro _
      simp [e72, t72, w1]
      exact ⟨k - 1, by omega, i + 1, by omega, rfl, rfl, by simp [e1, t1], by simp [e3, t3], by simp [e4, t4], by simp [e5, t5], by simp [e70, t70], by simp [e71, t71], by simp⟩
    · intro _
      simp [e72, t72, w1]
      exact ⟨k - 1, by omega, i + 1, by omega, rfl, rfl, by simp [e1, t1], by simp [e3, t3], by simp [e4, t4], by simp [e5, t5], by simp [e70, t70], by simp [e71, t71], by simp⟩
  · have hi3 : i = 3 := by omega
    subst hi3
    simp [t72, t71]
    exact hQ _ (by simp)

theorem resV_t2 {t : Nat → V} {h : Hp} {v : V} (e : t 2 = v) : resV [.t 2] t h = some v := by
  subst e; rfl
theorem boxes_reg {z : List V} {A B Ad X : List UInt8} {N : Nat} {t : Nat → V} {Q : Ex → St → Prop} {v : V} (la : Ad.length ≤ 1000) (lb : B.length ≤ 1000) (lx : X.length ≤ 1000)
    (t6 : t 6 = v) (hv : ∀ h, b2sV h v = some (.str (rSeal z A N Ad X))) (t1 : t 1 = .ptr 0 0) (t3 : t 3 = .ifc 52 (.agg [])) (t4 : t 4 = .ptr 1 0) (t5 : t 5 = .bool (decide (A.length = 32)))
    (hQ : ∀ t', t' 2 = .bool true → Q .ret ⟨t', [some (.cells (twoV A B N Ad X) none), some (.cells (kc A) none)], []⟩) :
    vc (BX z) R4 Q ⟨t, [some (.cells (twoV A B N Ad X) none), some (.cells (kc A) none)], []⟩ := by
  obtain ⟨H, hH⟩ : ∃ H : Hp, H = [some (.cells (twoV A B N Ad X) none), some (.cells (kc A) none)] := ⟨_, rfl⟩
  have q0 : rd H (.ptr 0 0) 1 = some [.str A] := by rw [hH]; rfl
  have q2 : rd H (.ptr 0 2) 1 = some [.int .u64 N] := by rw [hH]; rfl
  have q3 : rd H (.ptr 0 3) 1 = some [.str Ad] := by rw [hH]; rfl
  have q4 : rd H (.ptr 0 4) 1 = some [.str X] := by rw [hH]; rfl
  have hlen : (rSeal z A N Ad X).length ≤ 60000 := by
    unfold rSeal; split
    · have := (sealT_B (z := z) (n := (N : Int)) (kz_is A) (by omega : Ad.length ≤ 60000) (by omega : X.length ≤ 60000)).2
      simp [strC, this]; omega
    · simp
  rw [← hH]
  simp only [R4]
  simp
  refine vD_lin ?_
  simp [reL, vLs, vLg, vLq, dstO, nth_zero, nth_succ, nd, tell, fadV, asV, t1, t3, t6, q0, q2, q3, q4, hv]
  have hi := inv_b z "Seal" 79 rfl [.str A, .int .u64 (N : Int), .str Ad, .str X]
  simp [aop_invV, hi, t1, t3, t6, hv]
  refine (PCalls.at (BX.low z) (realSeal (z := z) (s := A) (n := (N : Int)) (by omega) (by omega)) (realArgs _ _ _ _) H).mono ?_
  rintro r h' ⟨rfl, hh⟩
  rw [hh]; clear hh h'
  simp [t6, hv]
  rw [hH]
  exact box_loop la lb lx hlen (by simp [t6]) hv (by simp [t1]) (by simp [t3]) (by simp [t4]) (by simp [t5]) hQ
theorem boxes_law {z : List V} (A B Ad X : List UInt8) (N : Nat) : PCalls (BX z) 4 [.agg (twoV A B N Ad X)] fun r => r = .ret (.bool true) := by
  refine PCalls.of (acall (BX.ok z) (show ckF (BX z).P 4 F4 = true from ck4) rfl ?_) fun r hr => by subst hr; exact .bool _
  have o1 : (∀ c ∈ twoV A B N Ad X, c.one = true) = True := eq_true (by simp [twoV, V.one])
  have q0 : ∀ l, rd (some (.cells (twoV A B N Ad X) none) :: l) (.ptr 0 0) 5 = some (twoV A B N Ad X) := fun l => rfl
  have qA : ∀ l, rd (some (.cells (twoV A B N Ad X) none) :: l) (.ptr 0 0) 1 = some [.str A] := fun l => rfl
  have q2 : ∀ l, rd (some (.cells (twoV A B N Ad X) none) :: l) (.ptr 0 2) 1 = some [.int .u64 N] := fun l => rfl
  have q3 : ∀ l, rd (some (.cells (twoV A B N Ad X) none) :: l) (.ptr 0 3) 1 = some [.str Ad] := fun l => rfl
  have q4 : ∀ l, rd (some (.cells (twoV A B N Ad X) none) :: l) (.ptr 0 4) 1 = some [.str X] := fun l => rfl
  simp only [F4_eq, F4']
  simp [V.cells, o1]
  refine (PCalls.at (BX.low z) (alive11.up (BX.up z)) (fun a ha => by cases ha) _).mono ?_
  rintro r h' ⟨rfl, rfl⟩
  simp
  refine (PCalls.at (BX.low z) (real6.up (BX.up z)) (fun a ha => by cases ha) _).mono ?_
  rintro r h' ⟨rfl, rfl⟩
  simp [q0, asV]
  refine (PCalls.at (BX.low z) ((few_spec A B N Ad X).up (BX.up z)) (fun v hv => by simp at hv; subst hv; exact .agg _ (by simp [twoV]; exact ⟨.str _, .str _, .int _ _, .str _, .str _⟩)) _).mono ?_
  rintro r h' ⟨rfl, rfl⟩
  by_cases hf : A.length ≤ 1000 ∧ B.length ≤ 1000 ∧ Ad.length ≤ 1000 ∧ X.length ≤ 1000
  · simp [hf, fadV, qA, asV]
    refine (PCalls.at (BX.low z) ((lkey_spec A).up (BX.up z)) (fun v hv => by simp at hv; subst hv; exact .str _) _).mono ?_
    rintro r h' ⟨rfl, rfl⟩
    have sK : stV [some (.cells (twoV A B N Ad X) none), some (.cells (zU 32) none)] 32 (.ptr 1 0) (.agg (kc A)) = some (.skip [some (.cells (twoV A B N Ad X) none), some (.cells (kc A) none)]) := stB32 (b := 1) rfl rfl (kc_is A)
    have rK : rd [some (.cells (twoV A B N Ad X) none), some (.cells (kc A) none)] (.ptr 1 0) 32 = some (kc A) := rd_allc rfl (isK_len (kc_is A))
    simp [sK, rK, asV, fadV, q2, q3, q4, s2b_t]
    refine (PCalls.at (BX.low z) (aseal_spec (n := (N : Int)) (kc_is A) (by omega) (by omega)) (sealArgs (kc_is A)) _).mono ?_
    rintro r h' ⟨rfl, rfl⟩
    by_cases h : A.length = 32
    · simp [h]
      refine boxes_reg (v := .lst false (sealT z (kc A) N Ad X)) (by omega) (by omega) (by omega) (by simp) (fun h' => ?_) (by simp) (by simp) (by simp) (by simp [h]) fun t' t2 => ?_
      · rw [b2s_lst (sealT_B (kc_is A) (by omega) (by omega)).1]
        unfold rSeal; rw [if_pos h, kc_kz h]
      · exact ⟨rfl, _, resV_t2 t2, rfl⟩
    · simp [h]
      refine boxes_reg (v := .nsl) (by omega) (by omega) (by omega) (by simp) (fun h' => ?_) (by simp) (by simp) (by simp) (by simp [h]) fun t' t2 => ?_
      · rw [b2s_nil]; unfold rSeal; rw [if_neg h]
      · exact ⟨rfl, _, resV_t2 t2, rfl⟩
  · simp [hf]
end Go.Proofs.YtfinnljkcgglfaaDoor
