/- stream's Xor. -/
import Derived.Test.YtfinnljkcgglfaaDoorZmAJ
set_option linter.unusedSimpArgs false
set_option linter.unusedVariables false
namespace Go.Proofs.YtfinnljkcgglfaaDoor
open Go Go.Vs Go.RowKit
set_option maxRecDepth 100000
set_option linter.unusedSimpArgs false
set_option linter.unusedVariables false
attribute [local simp] unV extV wanted strBin vpt vpn vmp nilV_ptr vic vsn

def xoE (a b : Int) : Int := IntKind.u8.wrap (((a % 2 ^ IntKind.u8.bits).toNat ^^^ (b % 2 ^ IntKind.u8.bits).toNat : Nat) : Int)
/-- The stream's byte p. -/
noncomputable def strE (z k n : List V) (c : Int) (p : Nat) : Int := intAt (blkF z k n (IntKind.u32.wrap (c + IntKind.u32.wrap (p / 64 : Nat)))) (p % 64)
noncomputable def xrE (z k n : List V) (c : Int) (B : Nat → Int) (p : Nat) : Int := xoE (B p) (strE z k n c p)
noncomputable def xrW (z k n : List V) (c : Int) (B : Nat → Int) (i : Nat) : Nat → Int := fun p => if p < i then xrE z k n c B p else 0
theorem xrW_step (z k n : List V) (c : Int) (B : Nat → Int) (i : Nat) : upd1 (xrW z k n c B i) i (xrE z k n c B i) = xrW z k n c B (i + 1) := by
  funext p; unfold upd1 xrW
  by_cases h : p = i
  · subst h; simp
  · rw [if_neg h]
    by_cases h2 : p < i
    · rw [if_pos h2, if_pos (by omega)]
    · rw [if_neg h2, if_neg (by omega)]
theorem CK_rep (n : Nat) : (List.replicate n [V.int .u8 0]).flatten = CK .u8 n (fun _ => 0) := by
  refine List.ext_getElem? fun j => ?_
  rw [show (List.replicate n [V.int .u8 0]).flatten = List.replicate n (V.int .u8 0) by
    induction n with
    | zero => rfl
    | succ n ih => simp [List.replicate_succ, ih]]
  by_cases h : j < n
  · rw [CK_get h]; simp [h]
  · rw [List.getElem?_eq_none (by simp; omega), List.getElem?_eq_none (by rw [CK_len]; omega)]
def mkslV (h : Hp) (es bt : Nat) (ag : Bool) (z : List V) : V → V → Option Rz
  | .int .i64 l, .int .i64 c => if 0 ≤ l ∧ l ≤ c ∧ c * bt ≤ room ∧ c ≤ room then some (.val (.sl h.length 0 l.toNat c.toNat true es ag) (h ++ [some (.cells (List.replicate c.toNat z).flatten)])) else none
  | _, _ => none
theorem aop_mkslV {x : X} {t : Nat → V} {h : Hp} (es bt : Nat) (ag : Bool) (z : List V) (l c : O) : aop x t h (.mksl es bt ag z l c) = mkslV h es bt ag z (l.ev x t) (c.ev x t) := rfl
theorem mksl_n {h : Hp} {n : Nat} (hn : n < 2 ^ 40) : mkslV h 1 1 false [.int .u8 0] (.int .i64 n) (.int .i64 n) = some (.val (.sl h.length 0 n n true 1 false) (h ++ [some (.cells (CK .u8 n (fun _ => 0)) none)])) := by
  simp only [mkslV, Int.toNat_natCast, CK_rep]
  rw [if_pos ⟨by omega, by omega, by unfold room; omega, by unfold room; omega⟩]
def minV : V → V → Option V
  | .int k a, .int k' b => if k = k' then some (.int k (if b < a then b else a)) else none
  | _, _ => none
theorem aop_minV {x : X} {t : Nat → V} {h : Hp} (a b : O) : aop x t h (.min a b) = (minV (a.ev x t) (b.ev x t)).map fun v => .val v h := by
  simp only [aop, minV]
  generalize a.ev x t = u
  generalize b.ev x t = w
  cases u <;> cases w <;> first | rfl | (simp only []; split <;> rfl)
theorem minV_n (a b : Nat) : minV (.int .i64 a) (.int .i64 b) = some (.int .i64 ((min a b : Nat) : Int)) := by
  simp only [minV, if_pos]
  congr 2
  split <;> omega
theorem iadB {n : Nat} {B : Nat → Int} {i : Nat} (h : i < n) : iadV 1 (.lst false (CK .u8 n B)) (.int .i64 i) = some (.fp [.int .u8 (B i)] 0) := by
  have e : (CK .u8 n B).getD i .nptr = .int .u8 (B i) := by rw [List.getD, CK_get h]; rfl
  simp only [iadV, Int.toNat_natCast, e, CK_len]
  rw [if_pos ⟨by omega, by omega, rfl⟩]; rfl
def iXo (z kc nc : List V) (c : Int) (n : Nat) (B : Nat → Int) (h : Hp) (k : Nat) (st : St) : Prop := ∃ j, k + j = (n + 63) / 64 ∧ st.d = [] ∧ st.t 3 = .lst false (CK .u8 n B) ∧ st.t 2 = .int .u32 c ∧ st.t 4 = .ptr h.length 0 ∧ st.t 5 = .ptr (h.length + 1) 0 ∧ st.t 10 = .sl (h.length + 2) 0 n n true 1 false ∧ st.t 11 = .int .i64 ((64 * j : Nat) : Int) ∧
  h.length + 3 ≤ st.h.length ∧ hget st.h h.length = some (.cells kc none) ∧ hget st.h (h.length + 1) = some (.cells nc none) ∧ hget st.h (h.length + 2) = some (.cells (CK .u8 n (xrW z kc nc c B (64 * j))) none) ∧ Frm h.length h st.h
def iXi (z kc nc : List V) (c : Int) (n : Nat) (B : Nat → Int) (h : Hp) (j g : Nat) (k : Nat) (st : St) : Prop := ∃ i, k + i = min (64 * j + 64) n ∧ 64 * j ≤ i ∧ st.d = [] ∧ st.t 3 = .lst false (CK .u8 n B) ∧ st.t 2 = .int .u32 c ∧ st.t 4 = .ptr h.length 0 ∧ st.t 5 = .ptr (h.length + 1) 0 ∧ st.t 10 = .sl (h.length + 2) 0 n n true 1 false ∧ st.t 11 = .int .i64 ((64 * j : Nat) : Int) ∧
  st.t 12 = .ptr g 0 ∧ st.t 13 = .int .i64 (i : Int) ∧ h.length + 3 ≤ g ∧ hget st.h g = some (.cells (blkF z kc nc (IntKind.u32.wrap (c + IntKind.u32.wrap (j : Nat)))) none) ∧
  h.length + 3 ≤ st.h.length ∧ hget st.h h.length = some (.cells kc none) ∧ hget st.h (h.length + 1) = some (.cells nc none) ∧ hget st.h (h.length + 2) = some (.cells (CK .u8 n (xrW z kc nc c B i)) none) ∧ Frm h.length h st.h
theorem xrW_ge {z k n : List V} {c : Int} {B : Nat → Int} {m i : Nat} (h : m ≤ i) : CK .u8 m (xrW z k n c B i) = CK .u8 m (xrE z k n c B) := by
  refine List.ext_getElem? fun j => ?_
  by_cases hj : j < m
  · rw [CK_get hj, CK_get hj]; simp only [xrW]; rw [if_pos (by omega)]
  · rw [List.getElem?_eq_none (by rw [CK_len]; omega), List.getElem?_eq_none (by rw [CK_len]; omega)]
theorem xor_run {z kc nc : List V} {n : Nat} {B : Nat → Int} {h : Hp} (hk : isK .u8 32 kc = true) (hc : isK .u8 12 nc = true) (hn : n ≤ 65536) :
    ACalls (BX z) 16 [.agg kc, .agg nc, .int .u32 1, .lst false (CK .u8 n B)] h fun r h' => r = .ret (.tup [.sl (h.length + 2) 0 n n true 1 false, .int .i64 0]) ∧ hget h' (h.length + 2) = some (.cells (CK .u8 n (xrE z kc nc 1 B)) none) ∧ Frm h.length h h' := by
  refine acall (BX.ok z) (show ckF (BX z).P 16 F16 = true from ck16) rfl ?_
  have o1 : (∀ c ∈ kc, c.one = true) = True := eq_true (one_of hk)
  have o2 : (∀ c ∈ nc, c.one = true) = True := eq_true (one_of hc)
  have hl : ∀ h, lenV h .slc (.lst false (CK .u8 n B)) = some (.int .i64 (n : Int)) := fun h => by
    show some _ = some _; simp [CK_len]
  have n1 : ¬ (65536 : Int) < (n : Int) := by omega
  have n1' : ¬ 65536 < n := by omega
  have n1'' : (n : Int) ≤ 65536 := by omega
  have w1 : IntKind.i64.wrap ((n : Int) + 64) = (n : Int) + 64 := by rw [wrap64 (by omega) (by omega)]
  have w2 : IntKind.i64.wrap ((n : Int) + 64 - 1) = ((n + 63 : Nat) : Int) := by rw [wrap64 (by omega) (by omega)]; omega
  obtain ⟨q, hq⟩ : ∃ q, q = (n + 63) / 64 := ⟨_, rfl⟩
  obtain ⟨e, he⟩ : ∃ e, e = n + 63 := ⟨_, rfl⟩
  rw [← he] at w2
  have d1 : (e : Int) / 64 = (q : Int) := by rw [hq, he]; rfl
  have w3 : IntKind.i64.wrap (q : Int) = (q : Int) := by rw [wrap64 (by omega) (by omega)]
  have w4 : IntKind.u64.wrap (q : Int) = (q : Int) := wrapu64 (by omega) (by omega)
  have w5 : IntKind.u64.wrap 1 = 1 := rfl
  have w6 : IntKind.u64.wrap (1 + (q : Int)) = 1 + (q : Int) := wrapu64 (by omega) (by omega)
  have n2 : ¬ (4294967296 : Int) < 1 + (q : Int) := by omega
  have n2' : 1 + (q : Int) ≤ 4294967296 := by omega
  simp [F16, V.cells, o1, o2, hl, n1, n1', n1'', cviV, w1, w2, d1, w3, w4, w5, w6, n2, n2', aop_mkslV, mksl_n (show n < 2 ^ 40 by omega)]
  have q0 : ∀ st : Hp, Frm h.length h st → hget st h.length = hget st h.length := fun _ _ => rfl
  have hh0 : h ++ [some (.cells kc none), some (.cells nc none), some (.cells (CK .u8 n (fun _ => 0)) none)] = h ++ [some (.cells kc none), some (.cells nc none), some (.cells (CK .u8 n (xrW z kc nc 1 B 0)) none)] := by
    congr
  refine vc_loop _ _ _ (iXo z kc nc 1 n B h) ((n + 63) / 64) ⟨0, by simp, by simp, by simp, by simp, by simp, by simp, by simp, by simp, by simp, by simp [hget], by simp [hget], by simp [hget]; rfl, Frm.append (Nat.le_refl _) _⟩ ?_
  rintro k ⟨t, st, d⟩ ⟨j, hk2, hd, t3, t2, t4, t5, t10, t11, hlen, g0, g1, g2, hF⟩
  simp only at hd t3 t2 t4 t5 t10 t11 hlen g0 g1 g2 hF
  subst hd
  by_cases hj : 64 * j < n
  · have j1 : ((64 * j : Nat) : Int) < (n : Int) := by omega
    obtain ⟨a, ha⟩ : ∃ a, a = 64 * j := ⟨_, rfl⟩
    rw [← ha] at t11 hj j1
    have r0 : rd st (.ptr h.length 0) 32 = some kc := rd_allc g0 (isK_len hk)
    have r1 : rd st (.ptr (h.length + 1) 0) 12 = some nc := rd_allc g1 (isK_len hc)
    have dq : (a : Int) / 64 = (j : Int) := by omega
    have wj : IntKind.i64.wrap (j : Int) = (j : Int) := by rw [wrap64 (by omega) (by omega)]
    simp [t3, t11, hj, j1, hl, t4, t5, t2, r0, r1, asV, dq, wj, cviV]
    have hb := blk_spec (z := z) (c := IntKind.u32.wrap (1 + IntKind.u32.wrap j)) hk hc
    refine (PCalls.at (BX.low z) hb.2 (fun v hv => by
      simp at hv; rcases hv with rfl | rfl | rfl
      · exact .agg _ (isK_low hk)
      · exact .agg _ (isK_low hc)
      · exact .int _ _) st).mono ?_
    rintro v h' ⟨rfl, hh⟩
    rw [hh]; clear hh h'
    have lb := isK_len hb.1
    have sN : ∀ old : List V, old.length = 64 → stV (st ++ [some (.cells old none)]) 64 (.ptr st.length 0) (.agg (blkF z kc nc (IntKind.u32.wrap (1 + IntKind.u32.wrap j)))) = some (.skip (WP st (blkF z kc nc (IntKind.u32.wrap (1 + IntKind.u32.wrap j))))) := fun old ho => by
      rw [st_all (n := 64) (old := old) (ty := none) (by simp [hget]) ho lb (one_of hb.1)]
      simp [WP]
    simp [sN, t11]
    have hlt : ∀ b, b < st.length → hget (WP st (blkF z kc nc (IntKind.u32.wrap (1 + IntKind.u32.wrap j)))) b = hget st b := fun b hb => WP_old _ hb
    refine vc_loop _ _ _ (iXi z kc nc 1 n B h j st.length) (min (64 * j + 64) n - 64 * j) ⟨64 * j, by omega, Nat.le_refl _, by simp, by simp [t3], by simp [t2], by simp [t4], by simp [t5], by simp [t10], by simp [t11, ha], by simp, by simp [ha], hlen, WP_at .., by simp [WP]; omega, by simp only; rw [hlt _ (by omega)]; exact g0, by simp only; rw [hlt _ (by omega)]; exact g1, by simp only; rw [hlt _ (by omega)]; exact g2, hF.trans ?_⟩ ?_
    · exact ⟨by simp [WP]; omega, by simp only [WP]; rw [List.take_append_of_le_length (by omega)]⟩
    clear t3 t2 t4 t5 t10 t11 sN hlt r0 r1 g0 g1 g2 hF
    obtain ⟨g, hg⟩ : ∃ g, g = st.length := ⟨_, rfl⟩
    rw [← hg]
    rintro k' ⟨t, st, d⟩ ⟨i, hk3, hij, hd, t3, t2, t4, t5, t10, t11, t12, t13, hg3, gb, hlen', g0, g1, g2, hF⟩
    simp only at hd t3 t2 t4 t5 t10 t11 t12 t13 gb hlen' g0 g1 g2 hF
    subst hd
    rw [← ha] at t11
    have wa : IntKind.i64.wrap ((a : Int) + 64) = ((a + 64 : Nat) : Int) := by rw [wrap64 (by omega) (by omega)]; omega
    obtain ⟨e2, he2⟩ : ∃ e2, e2 = a + 64 := ⟨_, rfl⟩
    rw [← he2] at wa
    have hmin := minV_n e2 n
    by_cases hi : i < min e2 n
    · have i1 : (i : Int) < ((min e2 n : Nat) : Int) := by omega
      obtain ⟨m, hm⟩ : ∃ m, m = min e2 n := ⟨_, rfl⟩
      rw [← hm] at hmin i1 hi
      obtain ⟨o, ho⟩ : ∃ o, o = i - a := ⟨_, rfl⟩
      have wo : IntKind.i64.wrap ((i : Int) - a) = (o : Int) := by rw [wrap64 (by omega) (by omega)]; omega
      have wi : IntKind.i64.wrap ((i : Int) + 1) = (i : Int) + 1 := by rw [wrap64 (by omega) (by omega)]
      have ib : iadV 1 (.lst false (CK .u8 n B)) (.int .i64 i) = some (.fp [.int .u8 (B i)] 0) := iadB (by omega)
      have ik := iada1 (len := 64) (b := g) (i := o) (by omega)
      have rk : rd st (.ptr g o) 1 = some [.int .u8 (intAt (blkF z kc nc (IntKind.u32.wrap (1 + IntKind.u32.wrap j))) o)] := by
        have hs := CK_sub1 (k := .u8) (n := 64) (w := intAt (blkF z kc nc (IntKind.u32.wrap (1 + IntKind.u32.wrap j)))) (i := o) (by omega)
        rw [show CK .u8 64 (intAt (blkF z kc nc (IntKind.u32.wrap (1 + IntKind.u32.wrap j)))) = _ from cellsK_eq hb.1] at hs
        rw [rd_cell gb]; exact hs
      have io : iadV 1 (.sl (h.length + 2) 0 n n true 1 false) (.int .i64 i) = some (.ptr (h.length + 2) i) := by
        simp only [iadV]; rw [if_pos ⟨trivial, by omega, by omega⟩]; simp
      have so : ∀ y, stV st 1 (.ptr (h.length + 2) i) (.int .u8 y) = some (.skip (st.set (h.length + 2) (some (.cells (CK .u8 n (upd1 (xrW z kc nc 1 B i) i y)) none)))) := fun y => by
        rw [st_CK1 g2 (by omega)]
      simp [t13, t11, wa, t3, hl, aop_minV, hmin, i1, hi]
      refine vD_lin ?_
      simp [reL, vLs, vLg, vLq, dstO, nth_zero, nth_succ, nd, tell, fadV, asV, t10, t13, t11, t3, t12, ib, rd_fp1, wo, aop_iadaV, ik, rk, io, so, wi]
      refine ⟨k' - 1, by omega, i + 1, by omega, by omega, rfl, by simp [t3], by simp [t2], by simp [t4], by simp [t5], by simp [t10], by simp [t11, ha], by simp [t12], by simp, hg3, ?_, by simp; exact hlen', ?_, ?_, ?_, ?_⟩
      · simp only; rw [hget_set_ne (by omega)]; exact gb
      · simp only; rw [hget_set_ne (by omega)]; exact g0
      · simp only; rw [hget_set_ne (by omega)]; exact g1
      · simp only; rw [hget_set (by omega), ← xrW_step]
        have ej : i / 64 = j := by omega
        have eo : i % 64 = o := by omega
        have : xrE z kc nc 1 B i = IntKind.u8.wrap (((B i % 2 ^ IntKind.u8.bits).toNat ^^^ (intAt (blkF z kc nc (IntKind.u32.wrap (1 + IntKind.u32.wrap j))) o % 2 ^ IntKind.u8.bits).toNat : Nat) : Int) := by
          unfold xrE xoE strE; rw [ej, eo]
        rw [this]
      · exact hF.trans (Frm.set (by omega) (by omega) _)
    · have i1 : ¬ (i : Int) < ((min e2 n : Nat) : Int) := by omega
      obtain ⟨m, hm⟩ : ∃ m, m = min e2 n := ⟨_, rfl⟩
      rw [← hm] at hmin i1 hi
      simp [t13, t11, wa, t3, hl, aop_minV, hmin, i1, hi]
      have ei : CK .u8 n (xrW z kc nc 1 B i) = CK .u8 n (xrW z kc nc 1 B (64 * (j + 1))) := by
        rcases Nat.le_total n (64 * (j + 1)) with h1 | h1
        · rw [xrW_ge h1, xrW_ge (by omega)]
        · rw [show i = 64 * (j + 1) by omega]
      refine ⟨k - 1, by omega, j + 1, by omega, rfl, by simp [t3], by simp [t2], by simp [t4], by simp [t5], by simp [t10], by simp; omega, hlen', g0, g1, ?_, hF⟩
      simp only; rw [g2, ei]
  · have j1 : ¬ ((64 * j : Nat) : Int) < (n : Int) := by omega
    obtain ⟨a, ha⟩ : ∃ a, a = 64 * j := ⟨_, rfl⟩
    rw [← ha] at t11 hj j1
    simp [t3, t11, hj, j1, hl, t10]
    refine ⟨?_, hF⟩
    rw [g2, xrW_ge (by omega)]
end Go.Proofs.YtfinnljkcgglfaaDoor
namespace Go.Proofs.YtfinnljkcgglfaaDoor
open Go Go.Vs Go.RowKit
set_option maxRecDepth 100000
set_option linter.unusedSimpArgs false
set_option linter.unusedVariables false
attribute [local simp] unV extV wanted strBin vpt vpn vmp nilV_ptr vic vsn

def lowE (n : Int) (i : Nat) : Int := IntKind.u8.wrap (n.fdiv (2 ^ min (8 * i) IntKind.u64.bits))
def lowV (n : Int) (i : Nat) : List V := CK .u8 i (lowE n)
theorem lowV_step (n : Int) (i : Nat) : lowV n i ++ [.int .u8 (lowE n i)] = lowV n (i + 1) := by simp [lowV, CK, List.range_succ]
def iL (h : Hp) (L : Nat) (c : Option Nat) (m : Nat) (ys : List V) (n : Int) (k : Nat) (st : St) : Prop := ∃ i, k + i = 8 ∧ st.d = [] ∧ st.t 1 = .int .u64 n ∧ st.t 6 = .int .i64 (i : Int) ∧ Vs.Own st.h L 1 false (st.t 0) (m + i) (ys ++ lowV n i) ∧ Frm L h st.h ∧ h.length ≤ st.h.length ∧ (∀ b, b < h.length → c ≠ some b → hget st.h b = hget h b) ∧ ((st.t 0).blk = c ∨ ∃ b, (st.t 0).blk = some b ∧ h.length ≤ b)
/-- Eight bytes more, low ones first; of what was there only the slice's own block turns. -/
theorem low_run {v : V} {h : Hp} {L m : Nat} {ys : List V} {n : Int} (hL : L ≤ h.length) (hv : Vs.Own h L 1 false v m ys) (hm : m < 2 ^ 40) :
    ACalls DX 21 [v, .int .u64 n] h fun r h' => ∃ v', r = .ret v' ∧ Vs.Own h' L 1 false v' (m + 8) (ys ++ lowV n 8) ∧ Frm L h h' ∧ h.length ≤ h'.length ∧ (∀ b, b < h.length → v.blk ≠ some b → hget h' b = hget h b) ∧ (v'.blk = v.blk ∨ ∃ b, v'.blk = some b ∧ h.length ≤ b) := by
  refine acall DX.ok ck21 rfl ?_
  simp [F21]
  refine vc_loop _ _ _ (iL h L v.blk m ys n) 8 ⟨0, by simp, by simp, by simp, by simp, by simp [lowV, CK]; exact hv, Frm.refl hL, Nat.le_refl _, fun _ _ _ => rfl, .inl (by simp)⟩ ?_
  rintro k ⟨t, st, d⟩ ⟨i, hk, hd, t1, t6, hO, hF, hlen, hold, hblk⟩
  simp only at hd t1 t6 hO hF hlen hold hblk
  subst hd
  by_cases hi : i < 8
  · have hi1 : (i : Int) < 8 := by omega
    have hi2 : ¬ (8 : Int) ≤ i := by omega
    have w1 : IntKind.i64.wrap ((i : Int) + 1) = (i : Int) + 1 := by rw [wrap64 (by omega) (by omega)]
    obtain ⟨e, he⟩ : ∃ e, e = 8 * i := ⟨_, rfl⟩
    have we : IntKind.i64.wrap (8 * (i : Int)) = (e : Int) := by rw [wrap64 (by omega) (by omega)]; omega
    have hsrc : src st 1 (.lst true [.int .u8 (lowE n i)]) = some (1, [.int .u8 (lowE n i)]) := by simp [src, flat, V.cells]
    obtain ⟨v', h', hap, hO', hF', hold', hblk', hlen'⟩ := Own.app (bt := 1) (ty := none) (by have := hF.1; omega) hO hsrc rfl (by unfold room; omega)
    have ee : IntKind.u8.wrap (n.fdiv (2 ^ min e IntKind.u64.bits)) = lowE n i := by rw [he]; rfl
    simp [t6, t1, hi, hi1, hi2, we, cviV, ee, fillV, setAll, V.cells, V.one, chunk, hap, w1]
    refine ⟨k - 1, by omega, i + 1, by omega, rfl, by simp [t1], by simp, ?_, hF.trans hF', Nat.le_trans hlen hlen', fun b hb hc => ?_, ?_⟩
    · rw [← lowV_step, ← List.append_assoc]
      simpa [Nat.add_assoc] using hO'
    · have h1 : (t 0).blk ≠ some b := by
        rcases hblk with e1 | ⟨b', e1, e2⟩
        · rw [e1]; exact hc
        · rw [e1]; intro e3; cases e3; omega
      exact (hold' b (by omega) h1).trans (hold b hb hc)
    · rcases hblk' with e1 | e1
      · have hb2 := hblk
        rw [← e1] at hb2
        simpa using hb2
      · exact .inr ⟨_, by simpa using e1, hlen⟩
  · have hi8 : i = 8 := by omega
    subst hi8
    simp [t6]
    exact ⟨hO, hF, hlen, hold, hblk⟩

/-! ### locked -/
def zU (n : Nat) : List V := List.replicate n (.int .u8 0)
theorem zU_len (n : Nat) : (zU n).length = n := by simp [zU]
def F15' : Fun :=
 ⟨12, 2, [.c 4 44 true],
 (.seq (.reg [⟨some 2, .box none (.t 0), none⟩,
 ⟨some 4, .new (zU 44) none, none⟩])
 (.seq (.dreg [⟨some 5, .load 32 true (.t 2), none⟩,
 ⟨some 6, .mksl 1 1 false [(.int .u8 0)] (.k (.int .i64 4)) (.k (.int .i64 4)), none⟩,
 ⟨some 7, .mov (.t 1), none⟩,
 ⟨some 8, .call (.k (.fn (.func 21) [] [])) [(.t 6), (.t 7)], none⟩,
 ⟨some 9, .arrp 12 1 (.t 8), none⟩,
 ⟨some 10, .load 12 true (.t 9), none⟩,
 ⟨some 11, .build (zU 44) [(0, 32, (.t 5)), (32, 12, (.t 10))], none⟩,
 ⟨none, .store 44 (.t 4) (.t 11), none⟩] (.lin [] [(0, none), (2, none), (1, some [0, 2]), (3, some [0]), (4, none), (5, none), (6, none), (7, some [])]))
 .ret))⟩
theorem F15_eq : F15 = F15' := rfl
def nonV (n : Int) : List V := CK .u8 4 (fun _ => 0) ++ lowV n 8
theorem nonV_is (n : Int) : isK .u8 12 (nonV n) = true := isK_mk (by simp [nonV, lowV, CK_len]) fun v hv => by
  rcases List.mem_append.1 hv with hv | hv
  · exact isK_all (CK_is ..) v hv
  · exact isK_all (CK_is ..) v hv
def lkF (k : List V) (n : Int) : List V := k ++ nonV n
theorem lkF_is {k : List V} {n : Int} (hk : isK .u8 32 k = true) : isK .u8 44 (lkF k n) = true := isK_mk (by simp [lkF, isK_len hk, isK_len (nonV_is n)]) fun v hv => by
  rcases List.mem_append.1 hv with hv | hv
  · exact isK_all hk v hv
  · exact isK_all (nonV_is n) v hv
theorem Own.sl_of {h : Hp} {k : Nat} {v : V} {n : Nat} {ys : List V} (H : Vs.Own h k 1 false v n ys) (h0 : n ≠ 0) : ∃ b cap ex rest ty, v = .sl b 0 n cap ex 1 false ∧ k ≤ b ∧ hget h b = some (.cells (ys ++ rest) ty) ∧ ys.length = n := by
  obtain ⟨hl, ⟨rfl, rfl⟩ | ⟨rfl, rfl⟩ | ⟨b, cap, ex, rest, ty, rfl, hb, hg, hc, hce⟩⟩ := H
  · exact absurd rfl h0
  · exact absurd rfl h0
  · exact ⟨b, cap, ex, rest, ty, rfl, hb, hg, by omega⟩
theorem fill44 {k c : List V} (hk : isK .u8 32 k = true) (hc : isK .u8 12 c = true) : fillV (zU 44) [(0, 32, .agg k), (32, 12, .agg c)] = some (k ++ c) := by
  have l1 := isK_len hk
  have l2 := isK_len hc
  have s1 : fillV (zU 44) [(0, 32, .agg k), (32, 12, .agg c)] = fillV (setAll (zU 44) 0 k) [(32, 12, .agg c)] := if_pos ⟨l1, by rw [zU_len]; omega, one_of hk⟩
  have e1 : setAll (zU 44) 0 k = k ++ List.replicate 12 (.int .u8 0) := by
    rw [setAll_eq _ _ _ (by rw [l1, zU_len]; omega)]; simp [zU, l1]
  have s2 : fillV (k ++ List.replicate 12 (.int .u8 0)) [(32, 12, .agg c)] = some (setAll (k ++ List.replicate 12 (.int .u8 0)) 32 c) := if_pos ⟨l2, by simp [l1], one_of hc⟩
  rw [s1, e1, s2, setAll_eq _ _ _ (by simp [l1, l2])]
  simp [l1, l2, List.take_append]
theorem locked_run {k : List V} {n : Int} (hk : isK .u8 32 k = true) : PCalls DX 15 [.agg k, .int .u64 n] fun r => r = .ret (.agg (lkF k n)) := by
  refine PCalls.of (acall DX.ok ck15 rfl ?_) fun r hr => by subst hr; exact .agg _ (isK_low (lkF_is hk))
  have o1 : (∀ c ∈ k, c.one = true) = True := eq_true (one_of hk)
  have r0 : rd [some (.cells k none), some (.cells (zU 44) none)] (.ptr 0 0) 32 = some k := rd_allc rfl (isK_len hk)
  have mk := mksl_n (h := [some (.cells k none), some (.cells (zU 44) none)]) (n := 4) (by decide)
  simp at mk
  have r1 : ∀ x, rd [some (.cells k none), some (.cells (zU 44) none), x] (.ptr 0 0) 32 = some k := fun x => rd_allc rfl (isK_len hk)
  simp only [F15_eq, F15']
  simp [V.cells, o1]
  refine vD_lin ?_
  simp [reL, vLs, vLg, vLq, dstO, nth_zero, nth_succ, nd, tell, fadV, asV, r0, r1, aop_mkslV, mk]
  refine (low_run (L := 2) (m := 4) (ys := CK .u8 4 fun _ => 0) (by simp) ⟨rfl, .inr (.inr ⟨2, 4, true, [], none, rfl, by omega, by simp [hget], by omega, by simp [CK_len]⟩)⟩ (by decide)).mono ?_
  rintro r h' ⟨v', rfl, hO, hF, hlen, hold, hblk⟩
  obtain ⟨b, cap, ex, rest, ty, rfl, hb, hg, hyl⟩ := Own.sl_of hO (by decide)
  have g0 : hget h' 0 = some (.cells k none) := by rw [hold 0 (by simp) (by simp [V.blk])]; rfl
  have g1 : hget h' 1 = some (.cells (zU 44) none) := by rw [hold 1 (by simp) (by simp [V.blk])]; rfl
  have r2 : rd h' (.ptr 0 0) 32 = some k := rd_allc g0 (isK_len hk)
  have ra : arrpV h' 12 1 (.sl b 0 12 cap ex 1 false) = some (.val (.ptr b 0) h') := by
    simp only [arrpV]; rw [if_pos ⟨Nat.le_refl _, trivial, by decide⟩]
  have r3 : rd h' (.ptr b 0) 12 = some (nonV n) := by
    simp only [rd, hg]
    unfold sub
    rw [if_pos (by simp [lowV, CK_len]; omega), List.drop_zero, show (CK .u8 4 fun _ => 0) ++ lowV n 8 = nonV n from rfl, List.take_append_of_le_length (Nat.le_of_eq (isK_len (nonV_is n)).symm), List.take_of_length_le (Nat.le_of_eq (isK_len (nonV_is n)))]
  have sA : stV h' 44 (.ptr 1 0) (.agg (k ++ nonV n)) = some (.skip (h'.set 1 (some (.cells (k ++ nonV n) none)))) := st_all (old := (zU 44)) g1 rfl (isK_len (lkF_is hk)) (one_of (lkF_is hk))
  simp [r2, aop_arrpV, ra, r3, asV, fill44 hk (nonV_is n), sA]
  refine resV_c1 (cs := lkF k n) ?_
  simp
  exact rd_allc (hget_set (by simp at hlen; omega) _) (isK_len (lkF_is hk))
end Go.Proofs.YtfinnljkcgglfaaDoor
namespace Go.Proofs.YtfinnljkcgglfaaDoor
open Go Go.Vs Go.RowKit
set_option maxRecDepth 100000
set_option linter.unusedSimpArgs false
set_option linter.unusedVariables false
attribute [local simp] unV extV wanted strBin vpt vpn vmp nilV_ptr vic vsn

theorem tagSum_spec {kc bs : List V} (hk : isK .u8 32 kc = true) (hB : isB bs) (hL : bs.length < 2 ^ 40) : ∃ c, (isK .u8 16 c = true ∧ ∀ v ∈ c, ∃ m : Nat, m < 256 ∧ v = .int .u8 m) ∧ ∀ (h : Hp) (k n : Nat) (v : V), n ≠ 0 → Vs.Own h k 1 false v n bs → ACalls DX 23 [.agg kc, v] h fun r h' => r = .ret (.agg c) ∧ h' = h := by
  obtain ⟨c, hc, hp⟩ := tagSum_ex hk hB hL
  refine ⟨c, hc, fun h k n v hn hO => ?_⟩
  obtain ⟨b, cap, ex, rest, ty, rfl, hb, hg, hyl⟩ := Own.sl_of hO hn
  refine hp.frz DX.low (fun r hr => by subst hr; exact .agg _ (isK_sc hc.1)) (h := h) (args := [.agg kc, .sl b 0 n cap ex 1 false]) ⟨.low _ (.agg _ (isK_low hk)), ?_, trivial⟩
  have hr : rd h (.ptr b 0) n = some bs := by
    simp only [rd, hg]
    unfold sub
    rw [if_pos (by simp; omega), List.drop_zero, List.take_append_of_le_length (by omega), List.take_of_length_le (by omega)]
  have := Fzn.sl (h := h) b 0 n cap 1 ex false bs (by rw [Nat.mul_one]; exact hr) (fun _ => rfl) (fun y hy => by obtain ⟨m, rfl⟩ := hB y hy; exact .int _ _)
  rwa [chunk_one n bs hyl] at this
def P17 : C := (.seq (.seq (.reg [⟨some 27, .mov (.t 8), none⟩,
 ⟨some 28, .len .slc (.t 27), none⟩,
 ⟨some 29, .bin .rem .num (.t 28) (.k (.int .i64 16)), none⟩,
 ⟨some 30, .bin .gtr .num (.t 29) (.k (.int .i64 0)), none⟩])
 (.cond (.t 30)
 .skip
 (.exit 2)))
 (.block 3
 (.reg [⟨some 31, .mov (.t 8), none⟩,
 ⟨some 32, .mks true 1 1 false [(.int .u8 0)] 1 [(0, (.k (.int .u8 0)))], none⟩,
 ⟨some 33, .app 1 1 false none (.t 31) (.t 32), none⟩,
 ⟨some 8, .mov (.t 33), none⟩])))
def B17 : C := (.seq (.reg [⟨some 22, .iad 1 (.t 18) (.t 20), none⟩,
 ⟨some 23, .load 1 false (.t 22), none⟩,
 ⟨some 10, .mov (.t 23), none⟩])
 (.seq (.reg [⟨some 24, .mov (.t 8), none⟩,
 ⟨some 25, .mov (.t 10), none⟩,
 ⟨some 26, .app 1 1 false none (.t 24) (.t 25), none⟩,
 ⟨some 8, .mov (.t 26), none⟩])
 (.block 2
 (.loop
 P17))))
def D17 : C := (.seq (.reg [⟨some 44, .slca 64 1 false (.t 7) none (some (.k (.int .i64 32))) none, none⟩,
 ⟨some 45, .arrp 32 1 (.t 44), none⟩,
 ⟨some 46, .load 32 true (.t 45), none⟩,
 ⟨some 47, .mov (.t 8), none⟩,
 ⟨some 48, .call (.k (.fn (.func 23) [] [])) [(.t 46), (.t 47)], none⟩,
 ⟨none, .store 16 (.t 6) (.t 48), none⟩])
 .ret)
def T17 : C := (.seq (.reg [⟨some 35, .mov (.t 8), none⟩,
 ⟨some 36, .mov (.t 1), none⟩,
 ⟨some 37, .len .slc (.t 36), none⟩,
 ⟨some 38, .cvi .u64 (.t 37), none⟩,
 ⟨some 39, .call (.k (.fn (.func 21) [] [])) [(.t 35), (.t 38)], none⟩,
 ⟨some 40, .mov (.t 2), none⟩,
 ⟨some 41, .len .slc (.t 40), none⟩,
 ⟨some 42, .cvi .u64 (.t 41), none⟩,
 ⟨some 43, .call (.k (.fn (.func 21) [] [])) [(.t 39), (.t 42)], none⟩,
 ⟨some 8, .mov (.t 43), none⟩])
 D17)
def F17' : Fun :=
 ⟨49, 3, [.c 6 16 true],
 (.seq (.reg [⟨some 3, .box none (.t 0), none⟩,
 ⟨some 6, .new (zU 16) none, none⟩])
 (.seq (.reg [⟨some 11, .fad 0 (.t 3), none⟩,
 ⟨some 12, .load 32 true (.t 11), none⟩,
 ⟨some 13, .fad 32 (.t 3), none⟩,
 ⟨some 14, .load 12 true (.t 13), none⟩,
 ⟨some 15, .call (.k (.fn (.func 22) [] [])) [(.t 12), (.t 14), (.k (.int .u32 0))], none⟩,
 ⟨some 7, .new (zU 64) none, none⟩,
 ⟨none, .store 64 (.t 7) (.t 15), none⟩])
 (.seq (.reg [⟨some 8, .mov (.k .nsl), none⟩])
 (.seq (.seq (.reg [⟨some 16, .mov (.t 1), none⟩,
 ⟨some 17, .mov (.t 2), none⟩,
 ⟨some 18, .mks true 1 24 false [.nsl, .nsl] 2 [(0, (.t 16)), (1, (.t 17))], none⟩,
 ⟨some 19, .len .slc (.t 18), none⟩,
 ⟨some 20, .mov (.k (.int .i64 0)), none⟩])
 (.block 0
 (.loop
 (.seq (.reg [⟨some 21, .bin .lss .num (.t 20) (.t 19), none⟩])
 (.seq (.cond (.t 21)
 .skip
 (.exit 0))
 (.seq (.block 1
 B17)
 (.reg [⟨some 34, .bin .add .num (.t 20) (.k (.int .i64 1)), none⟩,
 ⟨some 20, .mov (.t 34), none⟩])))))))
 T17))))⟩
def F17 : Fun := F17'
theorem F17_eq : F17 = F17' := rfl
theorem ck17 : ckF Tryd.prog 17 F17 = true := by kernel_rfl

def padN (n : Nat) : Nat := (16 - n % 16) % 16
def padV (ys : List V) : List V := ys ++ List.replicate (padN ys.length) (.int .u8 0)
theorem padN_0 {n m : Nat} : m ≤ padN n → ((n + m) % 16 = 0 ↔ m = padN n) := by unfold padN; omega
theorem padV_B {ys : List V} (h : isB ys) : isB (padV ys) := fun y hy => by
  rcases List.mem_append.1 hy with hy | hy
  · exact h y hy
  · exact ⟨0, List.eq_of_mem_replicate hy⟩
theorem padV_len (ys : List V) : (padV ys).length = ys.length + padN ys.length := by simp [padV]
def iPd (h : Hp) (u : Nat → V) (n : Nat) (ys : List V) (k : Nat) (st : St) : Prop := ∃ m, k + m = padN n ∧ st.d = [] ∧ Vs.Own st.h 3 1 false (st.t 8) (n + m) (ys ++ List.replicate m (.int .u8 0)) ∧ Frm 3 h st.h ∧ (∀ i, i < 3 ∨ i = 6 ∨ i = 7 ∨ (18 ≤ i ∧ i ≤ 20) → st.t i = u i)
theorem sum_round {x : X} {t : Nat → V} {h : Hp} {n m : Nat} {xs ys : List V} {Q : Ex → St → Prop} (hh : 3 ≤ h.length) (h18 : iadV 1 (t 18) (t 20) = some (.fp [.lst false xs] 0)) (hO : Vs.Own h 3 1 false (t 8) n ys) (hB : isB xs) (hm : xs.length = m) (hn : n + m < 2 ^ 40)
    (hQ : ∀ t' h', Vs.Own h' 3 1 false (t' 8) (n + m + padN (n + m)) (padV (ys ++ xs)) → Frm 3 h h' → (∀ i, i < 3 ∨ i = 6 ∨ i = 7 ∨ (18 ≤ i ∧ i ≤ 20) → t' i = t i) → Q .normal ⟨t', h', []⟩) : vc x B17 Q ⟨t, h, []⟩ := by
  have hsrc : src h 1 (.lst false xs) = some (m, xs) := by rw [← hm]; exact (sl_lst hB).1
  obtain ⟨v', h', hap, hO', hF', hold', hblk', hlen'⟩ := Own.app (bt := 1) (ty := none) hh hO hsrc (by omega) (by unfold room; omega)
  have hyl : (ys ++ xs).length = n + m := by rw [hO'.1, Nat.mul_one]
  simp [B17, h18, rd_fp1, asV, hap]
  refine vc_loop _ _ _ (iPd h t (n + m) (ys ++ xs)) (padN (n + m)) ⟨0, by simp, by simp, by simpa using hO', hF', fun i hi => ?_⟩ ?_
  · rcases hi with hi | rfl | rfl | hi
    · simp [put, show i ≠ 8 by omega, show i ≠ 26 by omega, show i ≠ 25 by omega, show i ≠ 24 by omega, show i ≠ 10 by omega, show i ≠ 23 by omega, show i ≠ 22 by omega]
    · simp
    · simp
    · simp [put, show i ≠ 8 by omega, show i ≠ 26 by omega, show i ≠ 25 by omega, show i ≠ 24 by omega, show i ≠ 10 by omega, show i ≠ 23 by omega, show i ≠ 22 by omega]
  rintro k ⟨t1, st, d⟩ ⟨j, hk, hd, hO1, hF1, hT⟩
  simp only at hd hO1 hF1 hT
  subst hd
  have hl := Own.lenV hO1
  obtain ⟨q, hq⟩ : ∃ q, q = n + m + j := ⟨_, rfl⟩
  rw [← hq] at hl hO1
  have hp := padN_0 (n := n + m) (m := j) (by omega)
  obtain ⟨r, hr⟩ : ∃ r, r = q % 16 := ⟨_, rfl⟩
  have rr : (q : Int).tmod 16 = (r : Int) := by subst hr; rfl
  have hbnd : padN (n + m) < 16 := by unfold padN; omega
  by_cases hj : j = padN (n + m)
  · have h0 : r = 0 := by rw [hr, hq]; exact hp.2 hj
    subst h0
    simp [P17, hl, rr]
    refine hQ _ _ ?_ hF1 (fun i hi => ?_)
    · rw [← hj, ← hq]
      unfold padV
      rw [hyl, ← hj]
      simpa using hO1
    · rw [← hT i hi]
      rcases hi with hi | rfl | rfl | hi
      · simp [put, show i ≠ 27 by omega, show i ≠ 28 by omega, show i ≠ 29 by omega, show i ≠ 30 by omega]
      · simp
      · simp
      · simp [put, show i ≠ 27 by omega, show i ≠ 28 by omega, show i ≠ 29 by omega, show i ≠ 30 by omega]
  · have h0 : 0 < r := by
      have : ¬ (n + m + j) % 16 = 0 := fun e => hj (hp.1 e)
      omega
    have h0' : (0 : Int) < (r : Int) := by omega
    have hsrc0 : src st 1 (.lst true [.int .u8 0]) = some (1, [.int .u8 0]) := by simp [src, flat, V.cells]
    obtain ⟨v2, h2, hap2, hO2, hF2, hold2, hblk2, hlen2⟩ := Own.app (bt := 1) (ty := none) (by have := hF1.1; omega) hO1 hsrc0 rfl (by unfold room; omega)
    simp [P17, hl, rr, h0, h0', fillV, setAll, V.cells, V.one, chunk, hap2]
    refine ⟨k - 1, by omega, j + 1, by omega, rfl, ?_, hF1.trans hF2, fun i hi => ?_⟩
    · have : n + m + (j + 1) = q + 1 := by omega
      rw [this, List.replicate_succ', ← List.append_assoc]
      simpa using hO2
    · rw [← hT i hi]
      rcases hi with hi | rfl | rfl | hi
      · simp [put, show i ≠ 27 by omega, show i ≠ 28 by omega, show i ≠ 29 by omega, show i ≠ 30 by omega, show i ≠ 31 by omega, show i ≠ 32 by omega, show i ≠ 33 by omega, show i ≠ 8 by omega]
      · simp
      · simp
      · simp [put, show i ≠ 27 by omega, show i ≠ 28 by omega, show i ≠ 29 by omega, show i ≠ 30 by omega, show i ≠ 31 by omega, show i ≠ 32 by omega, show i ≠ 33 by omega, show i ≠ 8 by omega]
end Go.Proofs.YtfinnljkcgglfaaDoor
namespace Go.Proofs.YtfinnljkcgglfaaDoor
open Go Go.Vs Go.RowKit
set_option maxRecDepth 100000
set_option linter.unusedSimpArgs false
set_option linter.unusedVariables false
attribute [local simp] unV extV wanted strBin vpt vpn vmp nilV_ptr vic vsn

def sumY (ad cs : List V) : Nat → List V
  | 0 => []
  | 1 => padV ad
  | _ => padV (padV ad ++ cs)
def sumA (ad cs : List V) : List V := sumY ad cs 2 ++ lowV ad.length 8 ++ lowV cs.length 8
theorem lowV_B (n : Int) (i : Nat) : isB (lowV n i) := isK_all (CK_is ..)
theorem sumA_B {ad cs : List V} (ha : isB ad) (hc : isB cs) : isB (sumA ad cs) := by
  have h1 : isB (padV ad ++ cs) := fun y hy => by
    rcases List.mem_append.1 hy with hy | hy
    · exact padV_B ha y hy
    · exact hc y hy
  intro y hy
  rcases List.mem_append.1 hy with hy | hy
  · rcases List.mem_append.1 hy with hy | hy
    · exact padV_B h1 y hy
    · exact lowV_B _ _ y hy
  · exact lowV_B _ _ y hy
theorem padN_lt (n : Nat) : padN n < 16 := by unfold padN; omega
theorem sumY_len {ad cs : List V} : ∀ i, (sumY ad cs i).length < ad.length + cs.length + 40
  | 0 => by simp [sumY]
  | 1 => by simp only [sumY, padV_len]; have := padN_lt ad.length; omega
  | i + 2 => by simp only [sumY, padV_len, List.length_append]; have := padN_lt ad.length; have := padN_lt (ad.length + padN ad.length + cs.length); omega
def iSm (H3 : Hp) (ad cs : List V) (k : Nat) (st : St) : Prop := ∃ i, k + i = 2 ∧ st.d = [] ∧ st.t 6 = .ptr 1 0 ∧ st.t 7 = .ptr 2 0 ∧ st.t 1 = .lst false ad ∧ st.t 2 = .lst false cs ∧ st.t 18 = .lst true [.lst false ad, .lst false cs] ∧ st.t 19 = .int .i64 2 ∧ st.t 20 = .int .i64 (i : Int) ∧ Frm 3 H3 st.h ∧ Vs.Own st.h 3 1 false (st.t 8) (sumY ad cs i).length (sumY ad cs i)
theorem lockSum_ex {z lk ad cs : List V} (hlk : isK .u8 44 lk = true) (ha : isB ad) (hc : isB cs) (la : ad.length < 2 ^ 30) (lc : cs.length < 2 ^ 30) : ∃ c, (isK .u8 16 c = true ∧ ∀ v ∈ c, ∃ m : Nat, m < 256 ∧ v = .int .u8 m) ∧ PCalls (BX z) 17 [.agg lk, .lst false ad, .lst false cs] fun r => r = .ret (.agg c) := by
  have k32 : isK .u8 32 (lk.take 32) = true := isK_mk (by simp [isK_len hlk]) fun v hv => isK_all hlk v (List.mem_of_mem_take hv)
  have k12 : isK .u8 12 (lk.drop 32) = true := isK_mk (by simp [isK_len hlk]) fun v hv => isK_all hlk v (List.mem_of_mem_drop hv)
  have hb := blk_spec (z := z) (c := 0) k32 k12
  have lb := isK_len hb.1
  have b32 : isK .u8 32 ((blkF z (lk.take 32) (lk.drop 32) 0).take 32) = true := isK_mk (by simp [lb]) fun v hv => isK_all hb.1 v (List.mem_of_mem_take hv)
  have hY := sumY_len (ad := ad) (cs := cs) 2
  obtain ⟨c, hcc, hT⟩ := tagSum_spec (kc := (blkF z (lk.take 32) (lk.drop 32) 0).take 32) (bs := sumA ad cs) b32 (sumA_B ha hc) (by simp [sumA, lowV, CK_len]; omega)
  have hc16 := hcc.1
  refine ⟨c, hcc, PCalls.of ?_ fun r hr => by subst hr; exact .agg _ (isK_low hc16)⟩
  refine acall (BX.ok z) (show ckF (BX z).P 17 F17 = true from ck17) rfl ?_
  have o1 : (∀ c ∈ lk, c.one = true) = True := eq_true (one_of hlk)
  have r0 : rd [some (.cells lk none), some (.cells (zU 16) none)] (.ptr 0 0) 32 = some (lk.take 32) := by
    simp only [rd, hget, sub]; simp [isK_len hlk]
  have r1 : rd [some (.cells lk none), some (.cells (zU 16) none)] (.ptr 0 32) 12 = some (lk.drop 32) := rd_drop (h := [some (.cells lk none), some (.cells (zU 16) none)]) (b := 0) (ty := none) rfl (isK_len hlk)
  simp only [F17_eq, F17']
  simp [V.cells, o1, fadV, r0, r1, asV]
  refine (PCalls.at (BX.low z) hb.2 (fun v hv => by
    simp at hv; rcases hv with rfl | rfl | rfl
    · exact .agg _ (isK_low k32)
    · exact .agg _ (isK_low k12)
    · exact .int _ _) _).mono ?_
  rintro v h' ⟨rfl, rfl⟩
  have sB : stV [some (.cells lk none), some (.cells (zU 16) none), some (.cells (zU 64) none)] 64 (.ptr 2 0) (.agg (blkF z (lk.take 32) (lk.drop 32) 0)) = some (.skip [some (.cells lk none), some (.cells (zU 16) none), some (.cells (blkF z (lk.take 32) (lk.drop 32) 0) none)]) := st_all (n := 64) (old := zU 64) (ty := none) rfl rfl lb (one_of hb.1)
  obtain ⟨H3, hH3⟩ : ∃ H3 : Hp, H3 = [some (.cells lk none), some (.cells (zU 16) none), some (.cells (blkF z (lk.take 32) (lk.drop 32) 0) none)] := ⟨_, rfl⟩
  have l3 : H3.length = 3 := by rw [hH3]; rfl
  have hl2 : ∀ h, lenV h .slc (.lst true [.lst false ad, .lst false cs]) = some (.int .i64 2) := fun h => rfl
  simp [sB, ← hH3, fillV, setAll, V.cells, V.one, chunk, hl2]
  refine vc_loop _ _ _ (iSm H3 ad cs) 2 ⟨0, by simp, by simp, by simp, by simp, by simp, by simp, by simp, by simp, by simp, Frm.refl (by omega), by simp [sumY, Vs.Own]⟩ ?_
  rintro k ⟨t, st, d⟩ ⟨i, hk, hd, t6, t7, t1, t2, t18, t19, t20, hF, hO⟩
  simp only at hd t6 t7 t1 t2 t18 t19 t20 hF hO
  subst hd
  have l3' : 3 ≤ st.length := hF.1
  by_cases hi : i < 2
  · have hi1 : (i : Int) < 2 := by omega
    have w1 : IntKind.i64.wrap ((i : Int) + 1) = (i : Int) + 1 := by rw [wrap64 (by omega) (by omega)]
    have hx : ∃ xs, isB xs ∧ xs.length < 2 ^ 30 ∧ iadV 1 (.lst true [.lst false ad, .lst false cs]) (.int .i64 (i : Int)) = some (.fp [.lst false xs] 0) ∧ sumY ad cs (i + 1) = padV (sumY ad cs i ++ xs) := by
      rcases (show i = 0 ∨ i = 1 by omega) with rfl | rfl
      · exact ⟨ad, ha, la, iad2_0 _ _ rfl, rfl⟩
      · exact ⟨cs, hc, lc, iad2_1 _ _ rfl, rfl⟩
    obtain ⟨xs, hxB, hxl, hxi, hxY⟩ := hx
    have hYi := sumY_len (ad := ad) (cs := cs) i
    simp [t20, t19, hi1, hi]
    refine sum_round (xs := xs) l3' (by simpa [t18, t20] using hxi) (by simpa using hO) hxB rfl (by omega) fun t' h' hO' hF' hT => ?_
    have e20 := hT 20 (by omega)
    simp at e20
    simp [e20, t20, w1]
    refine ⟨k - 1, by omega, i + 1, by omega, rfl, ?_, ?_, ?_, ?_, ?_, ?_, ?_, ?_, ?_⟩
    · have := hT 6 (by omega); simpa [t6] using this
    · have := hT 7 (by omega); simpa [t7] using this
    · have := hT 1 (by omega); simpa [t1] using this
    · have := hT 2 (by omega); simpa [t2] using this
    · have := hT 18 (by omega); simpa [t18] using this
    · have := hT 19 (by omega); simpa [t19] using this
    · simp
    · exact hF.trans hF'
    · have : (sumY ad cs (i + 1)).length = (sumY ad cs i).length + xs.length + padN ((sumY ad cs i).length + xs.length) := by rw [hxY, padV_len, List.length_append]
      rw [this, hxY]
      simpa using hO'
  · have hi2 : i = 2 := by omega
    subst hi2
    have hla : ∀ h, lenV h .slc (.lst false ad) = some (.int .i64 (ad.length : Int)) := fun h => rfl
    have hlc : ∀ h, lenV h .slc (.lst false cs) = some (.int .i64 (cs.length : Int)) := fun h => rfl
    have wa : IntKind.u64.wrap (ad.length : Int) = (ad.length : Int) := wrapu64 (by omega) (by omega)
    have wc : IntKind.u64.wrap (cs.length : Int) = (cs.length : Int) := wrapu64 (by omega) (by omega)
    simp [t20, t19, T17, t1, hla, cviV, wa]
    refine ((low_run (n := (ad.length : Int)) l3' hO (by omega)).up (BX.up z)).mono ?_
    rintro r h2 ⟨v2, rfl, hO2, hF2, hlen2, _, _⟩
    simp [t2, hlc, cviV, wc]
    refine ((low_run (n := (cs.length : Int)) (by omega) hO2 (by omega)).up (BX.up z)).mono ?_
    rintro r h4 ⟨v4, rfl, hO4, hF4, hlen4, _, _⟩
    have hFF := hF.trans (hF2.trans hF4)
    have g2 : hget h4 2 = some (.cells (blkF z (lk.take 32) (lk.drop 32) 0) none) := by rw [hFF.get (by omega), hH3]; rfl
    have g1 : hget h4 1 = some (.cells (zU 16) none) := by rw [hFF.get (by omega), hH3]; rfl
    have sc : slcaX h4 64 1 false 0 32 64 (.ptr 2 0) = some (.val (.sl 2 0 32 64 true 1 false) h4) := slcaX_ok g2 lb
    have ra : arrpV h4 32 1 (.sl 2 0 32 64 true 1 false) = some (.val (.ptr 2 0) h4) := by
      simp only [arrpV]; rw [if_pos ⟨Nat.le_refl _, trivial, by decide⟩]
    have r2 : rd h4 (.ptr 2 0) 32 = some ((blkF z (lk.take 32) (lk.drop 32) 0).take 32) := by
      simp only [rd, g2]
      unfold sub
      rw [if_pos (by omega), List.drop_zero]
    simp [D17, aop_slcaU, t7, sc, aop_arrpV, ra, r2, asV]
    refine ((hT h4 3 _ v4 (by omega) hO4).up (BX.up z)).mono ?_
    rintro r h5 ⟨rfl, hh⟩
    rw [hh]; clear hh h5
    have lc16 := isK_len hc16
    have sA : stV h4 16 (.ptr 1 0) (.agg c) = some (.skip (h4.set 1 (some (.cells c none)))) := st_all (old := zU 16) g1 rfl lc16 (one_of hc16)
    simp [t6, sA]
    refine resV_c1 (cs := c) ?_
    simp [t6]
    exact rd_allc (hget_set (by omega) _) lc16
end Go.Proofs.YtfinnljkcgglfaaDoor
namespace Go.Proofs.YtfinnljkcgglfaaDoor
open Go Go.Vs Go.RowKit
set_option maxRecDepth 100000
set_option linter.unusedSimpArgs false
set_option linter.unusedVariables false
attribute [local simp] unV extV wanted strBin vpt vpn vmp nilV_ptr vic vsn

def orB (x y : Int) : Int := IntKind.u8.wrap (((x % 2 ^ IntKind.u8.bits).toNat ||| (y % 2 ^ IntKind.u8.bits).toNat : Nat) : Int)
def eqX (A B : Nat → Int) : Nat → Int
  | 0 => 0
  | i + 1 => orB (eqX A B i) (xoE (A i) (B i))
def iEq (n : Nat) (A B : Nat → Int) (k : Nat) (st : St) : Prop := ∃ i, k + i = n ∧ st.d = [] ∧ st.h = [] ∧ st.t 1 = .lst false (CK .u8 n B) ∧ st.t 13 = .lst false (CK .u8 n A) ∧ st.t 14 = .int .i64 n ∧ st.t 15 = .int .i64 (i : Int) ∧ st.t 5 = .int .u8 (eqX A B i)
theorem equal_spec {n : Nat} {A B : Nat → Int} (hn : n < 2 ^ 40) : PCalls DX 18 [.lst false (CK .u8 n A), .lst false (CK .u8 n B)] fun r => r = .ret (.bool (eqX A B n == 0)) := by
  refine PCalls.of (acall DX.ok ck18 rfl ?_) fun r hr => by subst hr; exact .bool _
  have hl : ∀ h (B : Nat → Int), lenV h .slc (.lst false (CK .u8 n B)) = some (.int .i64 (n : Int)) := fun h B => by
    show some _ = some _; simp [CK_len]
  simp [F18, hl]
  refine vc_loop _ _ _ (iEq n A B) n ⟨0, by simp, by simp, by simp, by simp, by simp, by simp, by simp, by simp [eqX]⟩ ?_
  rintro k ⟨t, h, d⟩ ⟨i, hk, hd, hh, t1, t13, t14, t15, t5⟩
  simp only at hd hh t1 t13 t14 t15 t5
  subst hd hh
  by_cases hi : i < n
  · have i1 : (i : Int) < (n : Int) := by omega
    have w1 : IntKind.i64.wrap ((i : Int) + 1) = (i : Int) + 1 := by rw [wrap64 (by omega) (by omega)]
    have iA := iadB (B := A) hi
    have iB := iadB (B := B) hi
    simp [t15, t14, hi, i1, t13, iA, rd_fp1, asV, t5, t1, iB, w1]
    refine ⟨k - 1, by omega, i + 1, by omega, rfl, rfl, by simp [t1], by simp [t13], by simp [t14], by simp, ?_⟩
    simp [eqX, orB, xoE]
  · have hin : i = n := by omega
    subst hin
    simp [t15, t14, t5]
end Go.Proofs.YtfinnljkcgglfaaDoor
namespace Go.Proofs.YtfinnljkcgglfaaDoor
open Go Go.Vs Go.RowKit
set_option maxRecDepth 100000
set_option linter.unusedSimpArgs false
set_option linter.unusedVariables false
attribute [local simp] unV extV wanted strBin vpt vpn vmp nilV_ptr vic vsn

/-! ### lock.sum's answer -/
open Classical in
noncomputable def lsF (z lk ad cs : List V) : List V := if h : ∃ c, (isK .u8 16 c = true ∧ ∀ v ∈ c, ∃ m : Nat, m < 256 ∧ v = .int .u8 m) ∧ PCalls (BX z) 17 [.agg lk, .lst false ad, .lst false cs] fun r => r = .ret (.agg c) then Classical.choose h else []
theorem lsF_spec {z lk ad cs : List V} (hlk : isK .u8 44 lk = true) (ha : isB ad) (hc : isB cs) (la : ad.length < 2 ^ 30) (lc : cs.length < 2 ^ 30) : isK .u8 16 (lsF z lk ad cs) = true ∧ PCalls (BX z) 17 [.agg lk, .lst false ad, .lst false cs] fun r => r = .ret (.agg (lsF z lk ad cs)) := by
  have h := lockSum_ex (z := z) hlk ha hc la lc
  unfold lsF
  rw [dif_pos h]
  exact ⟨(Classical.choose_spec h).1.1, (Classical.choose_spec h).2⟩
/-- On an own slice. -/
theorem lsF_sl {z lk ad cs : List V} (hlk : isK .u8 44 lk = true) (ha : isB ad) (hc : isB cs) (la : ad.length < 2 ^ 30) (lc : cs.length < 2 ^ 30) {h : Hp} {b n cap : Nat} {ex : Bool} (hr : rd h (.ptr b 0) n = some cs) (hn : cs.length = n) :
    ACalls (BX z) 17 [.agg lk, .lst false ad, .sl b 0 n cap ex 1 false] h fun r h' => r = .ret (.agg (lsF z lk ad cs)) ∧ h' = h := by
  have H := lsF_spec (z := z) hlk ha hc la lc
  refine H.2.frz (BX.low z) (fun r hr => by subst hr; exact .agg _ (isK_sc H.1)) (h := h) (args := [.agg lk, .lst false ad, .sl b 0 n cap ex 1 false]) ⟨.low _ (.agg _ (isK_low hlk)), .low _ (lowB ha _), ?_, trivial⟩
  have := Fzn.sl (h := h) b 0 n cap 1 ex false cs (by rw [Nat.mul_one]; exact hr) (fun _ => rfl) (fun y hy => by obtain ⟨m, rfl⟩ := hc y hy; exact .int _ _)
  rwa [chunk_one n cs hn] at this
theorem CK_B {n : Nat} {A : Nat → Int} : isB (CK .u8 n A) := isK_all (CK_is ..)

def F12' : Fun :=
 ⟨43, 4, [.t 8, .t 9],
 (.seq (.reg [⟨some 4, .box none (.t 0), none⟩,
 ⟨some 8, .mov (.k .nsl), none⟩,
 ⟨some 9, .mov (.k (.int .i64 0)), none⟩])
 (.seq (.seq (.reg [⟨some 14, .mov (.t 2), none⟩,
 ⟨some 15, .len .slc (.t 14), none⟩,
 ⟨some 16, .bin .gtr .num (.t 15) (.k (.int .i64 60000)), none⟩,
 ⟨some 17, .mov (.t 16), none⟩,
 ⟨some 18, .mov (.t 3), some (17, false)⟩,
 ⟨some 19, .len .slc (.t 18), some (17, false)⟩,
 ⟨some 20, .bin .gtr .num (.t 19) (.k (.int .i64 60000)), some (17, false)⟩,
 ⟨some 21, .pick (.t 17) (.k (.bool true)) (.t 20), none⟩])
 (.cond (.t 21)
 (.seq (.reg [⟨some 8, .mov (.k .nsl), none⟩,
 ⟨some 9, .mov (.k (.int .i64 3)), none⟩])
 .ret)
 .skip))
 (.seq (.reg [⟨some 22, .load 32 true (.t 4), none⟩,
 ⟨some 23, .mov (.t 1), none⟩,
 ⟨some 24, .call (.k (.fn (.func 15) [] [])) [(.t 22), (.t 23)], none⟩,
 ⟨some 10, .new (zU 44) none, none⟩,
 ⟨none, .store 44 (.t 10) (.t 24), none⟩])
 (.seq (.reg [⟨some 26, .load 32 true (.t 4), none⟩,
 ⟨some 27, .fad 32 (.t 10), none⟩,
 ⟨some 28, .load 12 true (.t 27), none⟩,
 ⟨some 29, .mov (.t 3), none⟩,
 ⟨some 30, .call (.k (.fn (.func 16) [] [])) [(.t 26), (.t 28), (.k (.int .u32 1)), (.t 29)], none⟩,
 ⟨some 25, .mov (.t 30), none⟩,
 ⟨some 31, .ext (.t 25) 0, none⟩,
 ⟨some 32, .ext (.t 25) 1, none⟩,
 ⟨some 11, .mov (.t 31), none⟩,
 ⟨some 12, .mov (.t 32), none⟩])
 (.seq (.seq (.reg [⟨some 33, .mov (.t 12), none⟩,
 ⟨some 34, .bin .neq .num (.t 33) (.k (.int .i64 0)), none⟩])
 (.cond (.t 34)
 (.seq (.reg [⟨some 35, .mov (.t 12), none⟩,
 ⟨some 8, .mov (.k .nsl), none⟩,
 ⟨some 9, .mov (.t 35), none⟩])
 .ret)
 .skip))
 (.seq (.reg [⟨some 36, .load 44 true (.t 10), none⟩,
 ⟨some 37, .mov (.t 2), none⟩,
 ⟨some 38, .mov (.t 11), none⟩,
 ⟨some 39, .call (.k (.fn (.func 17) [] [])) [(.t 36), (.t 37), (.t 38)], none⟩,
 ⟨some 13, .new (zU 16) none, none⟩,
 ⟨none, .store 16 (.t 13) (.t 39), none⟩])
 (.seq (.reg [⟨some 40, .mov (.t 11), none⟩,
 ⟨some 41, .slca 16 1 false (.t 13) none none none, none⟩,
 ⟨some 42, .app 1 1 false none (.t 40) (.t 41), none⟩,
 ⟨some 8, .mov (.t 42), none⟩,
 ⟨some 9, .mov (.k (.int .i64 0)), none⟩])
 .ret)))))))⟩
def F12 : Fun := F12'
theorem F12_eq : F12 = F12' := rfl
theorem ck12 : ckF Tryd.prog 12 F12 = true := by kernel_rfl


/-- What is sealed. -/
noncomputable def outF (z kc : List V) (n : Int) (m : Nat) (B : Nat → Int) : List V := CK .u8 m (xrE z kc (nonV n) 1 B)
noncomputable def boxF (z kc : List V) (n : Int) (ad : List V) (m : Nat) (B : Nat → Int) : List V := outF z kc n m B ++ lsF z (lkF kc n) ad (outF z kc n m B)
theorem outF_B (z kc : List V) (n : Int) (m : Nat) (B : Nat → Int) : isB (outF z kc n m B) := CK_B
theorem outF_len (z kc : List V) (n : Int) (m : Nat) (B : Nat → Int) : (outF z kc n m B).length = m := CK_len ..
theorem seal_run {z kc ad : List V} {n : Int} {m : Nat} {B : Nat → Int} (hk : isK .u8 32 kc = true) (ha : isB ad) (la : ad.length ≤ 60000) (hm : m ≤ 60000) :
    ACalls (BX z) 12 [.agg kc, .int .u64 n, .lst false ad, .lst false (CK .u8 m B)] [] fun r h' => ∃ v, r = .ret (.tup [v, .int .i64 0]) ∧ Vs.Own h' 0 1 false v (m + 16) (boxF z kc n ad m B) := by
  refine acall (BX.ok z) (show ckF (BX z).P 12 F12 = true from ck12) rfl ?_
  have o1 : (∀ c ∈ kc, c.one = true) = True := eq_true (one_of hk)
  have hla : ∀ h, lenV h .slc (.lst false ad) = some (.int .i64 (ad.length : Int)) := fun h => rfl
  have hlm : ∀ h, lenV h .slc (.lst false (CK .u8 m B)) = some (.int .i64 (m : Int)) := fun h => by show some _ = some _; simp [CK_len]
  have a1 : ¬ (60000 : Int) < (ad.length : Int) := by omega
  have a2 : ¬ 60000 < ad.length := by omega
  have a3 : (ad.length : Int) ≤ 60000 := by omega
  have m1 : ¬ (60000 : Int) < (m : Int) := by omega
  have m2 : ¬ 60000 < m := by omega
  have m3 : (m : Int) ≤ 60000 := by omega
  have r0 : ∀ l, rd (some (.cells kc none) :: l) (.ptr 0 0) 32 = some kc := fun l => rd_allc rfl (isK_len hk)
  simp only [F12_eq, F12']
  simp [V.cells, o1, hla, hlm, a1, a2, a3, m1, m2, m3, r0, asV]
  refine (PCalls.at (BX.low z) ((locked_run (n := n) hk).up (BX.up z)) (fun v hv => by
    simp at hv; rcases hv with rfl | rfl
    · exact .agg _ (isK_low hk)
    · exact .int _ _) _).mono ?_
  rintro v h' ⟨rfl, rfl⟩
  have hlk := lkF_is (n := n) hk
  have sL : stV [some (.cells kc none), some (.cells (zU 44) none)] 44 (.ptr 1 0) (.agg (lkF kc n)) = some (.skip [some (.cells kc none), some (.cells (lkF kc n) none)]) := st_all (n := 44) (old := zU 44) (ty := none) rfl rfl (isK_len hlk) (one_of hlk)
  have r1 : rd [some (.cells kc none), some (.cells (lkF kc n) none)] (.ptr 1 32) 12 = some (nonV n) := by
    rw [rd_drop (h := [some (.cells kc none), some (.cells (lkF kc n) none)]) (b := 1) (ty := none) rfl (isK_len hlk)]
    simp [lkF, isK_len hk]
  simp [sL, r0, r1, asV, fadV]
  refine (xor_run (h := [some (.cells kc none), some (.cells (lkF kc n) none)]) hk (nonV_is n) (by omega)).mono ?_
  rintro r h2 ⟨rfl, g2, hF⟩
  have hg2 : hget h2 4 = some (.cells (outF z kc n m B) none) := g2
  have hl2 : 4 < h2.length := hget_lt hg2
  have g1 : hget h2 1 = some (.cells (lkF kc n) none) := by rw [hF.get (by simp)]; rfl
  have r4 : rd h2 (.ptr 1 0) 44 = some (lkF kc n) := rd_allc g1 (isK_len hlk)
  simp [r4, asV]
  refine (lsF_sl (b := 4) (n := m) (cap := m) (ex := true) hlk ha (outF_B z kc n m B) (by omega) (by rw [outF_len]; omega) (rd_allc hg2 (outF_len ..)) (outF_len ..)).mono ?_
  rintro r h3 ⟨rfl, hh⟩
  rw [hh]; clear hh h3
  have hT := lsF_spec (z := z) hlk ha (outF_B z kc n m B) (by omega : ad.length < 2 ^ 30) (by rw [outF_len]; omega)
  have lt := isK_len hT.1
  obtain ⟨tg, htg⟩ : ∃ tg, tg = lsF z (lkF kc n) ad (outF z kc n m B) := ⟨_, rfl⟩
  rw [← htg] at hT lt
  have sT : stV (h2 ++ [some (.cells (zU 16) none)]) 16 (.ptr h2.length 0) (.agg tg) = some (.skip (WP h2 tg)) := by
    rw [st_all (n := 16) (old := zU 16) (ty := none) (by simp [hget]) rfl lt (one_of hT.1)]
    simp [WP]
  have sc : slcaVV (WP h2 tg) 16 1 false (.ptr h2.length 0) = some (.val (.sl h2.length 0 16 16 true 1 false) (WP h2 tg)) := slcaVV_at (WP_at ..) lt
  have hsrc : src (WP h2 tg) 1 (.sl h2.length 0 16 16 true 1 false) = some (16, tg) := by
    have : rd (WP h2 tg) (.ptr h2.length 0) 16 = some tg := rd_allc (WP_at ..) lt
    simp [src, this]
  have hO : Vs.Own (WP h2 tg) 0 1 false (.sl 4 0 m m true 1 false) m (outF z kc n m B) := ⟨by rw [outF_len, Nat.mul_one], .inr (.inr ⟨4, m, true, [], none, rfl, by omega, by rw [WP_old _ hl2, List.append_nil]; exact hg2, Nat.le_refl _, by rw [List.append_nil, outF_len]; omega⟩)⟩
  obtain ⟨v', h', hap, hO', hF', hold', hblk', hlen'⟩ := Own.app (bt := 1) (ty := none) (Nat.zero_le _) hO hsrc (by omega) (by unfold room; omega)
  rw [← htg]
  simp [sT, aop_slcaV, sc, hap]
  have eb : boxF z kc n ad m B = outF z kc n m B ++ tg := by unfold boxF; rw [← htg]
  rw [eb]
  exact hO'
theorem sl_ice {x : X} {f : FuncId} {args : List V} {e : V} {n : Nat} {ys : List V} (he : Low 0 e) (h0 : n ≠ 0) (hB : isB ys) (H : ACalls x f args [] fun r h' => ∃ v, r = .ret (.tup [v, e]) ∧ Vs.Own h' 0 1 false v n ys) : PCalls x f args fun r => r = .ret (.tup [.lst false ys, e]) := by
  refine H.ice ?_
  rintro r h' ⟨v, rfl, hO⟩
  refine ⟨Nat.zero_le _, LowH.zero _, .ret (.tup [.lst false ys, e]), ?_, rfl, by simp⟩
  obtain ⟨b, cap, ex, rest, ty, rfl, hb, hg, hyl⟩ := Own.sl_of hO h0
  have h1 : ∀ y ∈ ys, y.one = true := fun y hy => by obtain ⟨n, rfl⟩ := hB y hy; rfl
  have h2 : ∀ y ∈ ys, Low 0 y := fun y hy => by obtain ⟨n, rfl⟩ := hB y hy; exact .int _ _
  have hi := Ice.sl (h := h') (k := 0) b 0 n cap ex 1 false _ ty ys ys hb hg (by
    unfold sub; rw [if_pos (by simp; omega), List.drop_zero, Nat.mul_one, List.take_append_of_le_length (by omega), List.take_of_length_le (by omega)]) (fun _ => rfl) rfl (fun j x y hx hy => by rw [hx] at hy; cases hy; exact .low _ (h2 _ (List.mem_of_getElem? hx))) h1
  rw [chunk_one n ys hyl] at hi
  refine .tup _ _ rfl fun j a b ha hb => ?_
  match j with
  | 0 => simp at ha hb; subst ha hb; exact hi
  | 1 => simp at ha hb; subst ha hb; exact .low _ he
  | j + 2 => simp at ha
theorem boxF_B {z kc ad : List V} {n : Int} {m : Nat} {B : Nat → Int} (hk : isK .u8 32 kc = true) (ha : isB ad) (la : ad.length ≤ 60000) (hm : m ≤ 60000) : isB (boxF z kc n ad m B) ∧ (boxF z kc n ad m B).length = m + 16 := by
  have hT := lsF_spec (z := z) (lkF_is (n := n) hk) ha (outF_B z kc n m B) (by omega : ad.length < 2 ^ 30) (by rw [outF_len]; omega)
  refine ⟨fun y hy => ?_, by simp [boxF, outF_len, isK_len hT.1]⟩
  rcases List.mem_append.1 hy with hy | hy
  · exact outF_B z kc n m B y hy
  · exact isK_all hT.1 y hy
theorem seal_spec' {z kc ad : List V} {n : Int} {m : Nat} {B : Nat → Int} (hk : isK .u8 32 kc = true) (ha : isB ad) (la : ad.length ≤ 60000) (hm : m ≤ 60000) :
    PCalls (BX z) 12 [.agg kc, .int .u64 n, .lst false ad, .lst false (CK .u8 m B)] fun r => r = .ret (.tup [.lst false (boxF z kc n ad m B), .int .i64 0]) :=
  sl_ice (n := m + 16) (.int _ _) (by omega) (boxF_B hk ha la hm).1 (seal_run hk ha la hm)
end Go.Proofs.YtfinnljkcgglfaaDoor
