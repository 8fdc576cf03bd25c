/- Boxes: stream's block, tag's word: one answer each, of whatever stream.first. -/
import Derived.Test.YtfinnljkcgglfaaDoorZmZ
set_option linter.unusedSimpArgs false
set_option linter.unusedVariables false
namespace Go.Proofs.YtfinnljkcgglfaaDoor
open Go Go.Vs
set_option maxRecDepth 100000

/-! stream.first is told, too. -/
def N4 (l : List V) : List V := [.int .u32 (intAt l 0), .int .u32 (intAt l 1), .int .u32 (intAt l 2), .int .u32 (intAt l 3)]
def N12 (l : List V) : List V := [.int .u8 (intAt l 0), .int .u8 (intAt l 1), .int .u8 (intAt l 2), .int .u8 (intAt l 3), .int .u8 (intAt l 4), .int .u8 (intAt l 5), .int .u8 (intAt l 6), .int .u8 (intAt l 7), .int .u8 (intAt l 8), .int .u8 (intAt l 9), .int .u8 (intAt l 10), .int .u8 (intAt l 11)]
theorem N4_is (l : List V) : isK .u32 4 (N4 l) = true := cellsK_is ..
theorem N12_id {l : List V} (h : isK .u8 12 l = true) : N12 l = l := cellsK_eq h
def BX.G (z : List V) : Nat → List V
  | 0 => DX.start
  | 1 => N4 z
  | 2 => DX.consts
  | _ => []
noncomputable def BX (z : List V) : X := ⟨Tryd.prog, (BX.G z), DX.M⟩
theorem BX.up (z : List V) : XUp DX (BX z) := ⟨rfl, rfl, fun g => match g with
  | 0 => .inl rfl
  | 1 => .inr rfl
  | 2 => .inl rfl
  | n + 3 => .inl rfl⟩
theorem BX.ok (z : List V) : XOk (BX z) := DX.ok
theorem BX.low (z : List V) : XLow (BX z) := fun g c hc => by
  match g with
  | 0 => exact DX.low 0 c hc
  | 1 => exact isK_low (N4_is z) c hc
  | 2 => exact DX.low 2 c hc
  | n + 3 => cases hc
def BX.T (p : FuncId → List V → Option V) (q : FuncId → List V → K.HT → Option (Res × K.HT)) : K.Tb := ⟨DX.tf.get, DX.ts.get, p, q⟩
theorem BX.tok (z : List V) (p : FuncId → List V → Option V) (q : FuncId → List V → K.HT → Option (Res × K.HT)) (hp : ∀ g args v, p g args = some v → PCalls (BX z) g args fun r => r = .ret v)
    (hq : ∀ g args h r h', q g args h = some (r, h') → ACalls (BX z) g args h.l fun a b => a = r ∧ b = h'.l) : K.TbOk (BX z) (BX.T p q) :=
  ⟨fun g F h => (TrF.get_ok _ DX.tf_ok g F h).1, fun g F h => (TrF.get_ok _ DX.ts_ok g F h).1, hp, hq, fun g F h => (TrF.get_ok _ DX.tf_ok g F h).2, fun g F h => (TrF.get_ok _ DX.ts_ok g F h).2⟩
def B0 : K.Tb := BX.T (fun _ _ => none) fun _ _ _ => none
theorem B0.ok (z : List V) : K.TbOk (BX z) B0 := BX.tok z _ _ (fun g args v h => by cases h) fun g args h r h' he => by cases he
theorem block_ex (z k n : List V) (c : Int) : ∃ r, okA .u8 64 r = true ∧ PCalls (BX z) 22 [.agg (N32 k), .agg (N12 n), .int .u32 c] fun b => b = r := ex_of (BX.ok z) (BX.low z) (B0.ok z) (n := 3000) (by kernel_rfl)
noncomputable def blkF (z k n : List V) (c : Int) : List V := aggOf (Classical.choose (block_ex z k n c))
theorem blk_spec {z k n : List V} {c : Int} (hk : isK .u8 32 k = true) (hn : isK .u8 12 n = true) : isK .u8 64 (blkF z k n c) = true ∧ PCalls (BX z) 22 [.agg k, .agg n, .int .u32 c] fun r => r = .ret (.agg (blkF z k n c)) :=
  pc_of2 (block_ex z k n c) (by rw [N32_id hk, N12_id hn])
end Go.Proofs.YtfinnljkcgglfaaDoor
namespace Go.Proofs.YtfinnljkcgglfaaDoor
open Go Go.Vs Go.RowKit
set_option maxRecDepth 100000
set_option linter.unusedSimpArgs false
set_option linter.unusedVariables false
attribute [local simp] unV extV wanted strBin vpt vpn vmp nilV_ptr vic

/-! ### word -/
def N8 (l : List V) : List V := [.int .u8 (intAt l 0), .int .u8 (intAt l 1), .int .u8 (intAt l 2), .int .u8 (intAt l 3), .int .u8 (intAt l 4), .int .u8 (intAt l 5), .int .u8 (intAt l 6), .int .u8 (intAt l 7)]
def orE (x y : Int) : Int := IntKind.u64.wrap (((x % 2 ^ IntKind.u64.bits).toNat ||| (y % 2 ^ IntKind.u64.bits).toNat : Nat) : Int)
def slE (x : Int) (n : Nat) : Int := IntKind.u64.wrap (IntKind.u64.wrap x * 2 ^ min n IntKind.u64.bits)
def wordE (a : List V) : Int := orE (orE (orE (orE (orE (orE (orE (orE 0 (slE (intAt a 0) 0)) (slE (intAt a 1) 8)) (slE (intAt a 2) 16)) (slE (intAt a 3) 24)) (slE (intAt a 4) 32)) (slE (intAt a 5) 40)) (slE (intAt a 6) 48)) (slE (intAt a 7) 56)
def i64R : Res → Int
  | .ret (.int .u64 n) => n
  | _ => 0
def isW : Res → Bool
  | .ret (.int .u64 _) => true
  | _ => false
theorem word_run (a : List V) : PCalls DX 28 [.lst false (N8 a)] fun r => r = .ret (.int .u64 (wordE a)) := by
  have h : (match K.evF DX C0 1000 28 [.lst false (N8 a)] K.HT.nil with
    | some p => some (isW p.1, i64R p.1, Nat.beq p.2.n 0)
    | none => none) = some (true, wordE a, true) := by kernel_rfl
  cases he : K.evF DX C0 1000 28 [.lst false (N8 a)] K.HT.nil with
  | none => rw [he] at h; cases h
  | some p =>
    rw [he] at h
    simp only [Option.some.injEq, Prod.mk.injEq] at h
    obtain ⟨h1, h2, h3⟩ := h
    have := K.evF_pure DX.ok DX.low C0.ok (r := p.1) (h := p.2) he (K.nbeq h3)
    refine this.mono fun r h' hr => ⟨?_, hr.2⟩
    rw [hr.1]
    unfold isW at h1
    split at h1
    · rename_i n hp; rw [hp] at h2 ⊢; simp only [i64R] at h2; rw [h2]
    · cases h1
theorem orE_r (x y : Int) : 0 ≤ orE x y ∧ orE x y < 18446744073709551616 := wrap_range _
theorem wordE_r (a : List V) : 0 ≤ wordE a ∧ wordE a < 18446744073709551616 := orE_r ..
theorem word_spec {a : List V} (h : isK .u8 8 a = true) : PCalls DX 28 [.lst false a] fun r => r = .ret (.int .u64 (wordE a)) := by
  have := word_run a
  rwa [show N8 a = a from cellsK_eq (k := .u8) (n := 8) h] at this

/-! ### plus -/
/-- Numbers of 64 bits. -/
def R64 (w : Nat → Int) : Prop := ∀ p, 0 ≤ w p ∧ w p < 18446744073709551616
def plC (A B : Nat → Int) : Nat → Int
  | 0 => 0
  | i + 1 => (((A i).toNat + (B i).toNat + (plC A B i).toNat) / 2 ^ 64 : Nat)
def plS (A B : Nat → Int) (i : Nat) : Int := (((A i).toNat + (B i).toNat + (plC A B i).toNat) % 2 ^ 64 : Nat)
/-- The first i are summed. -/
def plW (A B : Nat → Int) (i : Nat) : Nat → Int := fun p => if p < i then plS A B p else A p
theorem plC_01 {A B : Nat → Int} (ha : R64 A) (hb : R64 B) : ∀ i, 0 ≤ plC A B i ∧ plC A B i ≤ 1
  | 0 => by simp [plC]
  | i + 1 => by
    have := plC_01 ha hb i
    have h1 := ha i
    have h2 := hb i
    unfold plC
    omega
theorem plS_r (A B : Nat → Int) : R64 (plS A B) := fun p => by unfold plS; omega
theorem plW_0 (A B : Nat → Int) : plW A B 0 = A := by funext p; simp [plW]
theorem plW_step (A B : Nat → Int) (i : Nat) : upd1 (plW A B i) i (plS A B i) = plW A B (i + 1) := by
  funext p; unfold upd1 plW
  by_cases h : p = i
  · subst h; simp
  · rw [if_neg h]
    by_cases h2 : p < i
    · rw [if_pos h2, if_pos (by omega)]
    · rw [if_neg h2, if_neg (by omega)]
def PH (B w : Nat → Int) : Hp := [some (.cells (CK .u64 3 w) none), some (.cells (CK .u64 3 B) none), some (.cells [.int .u64 0, .int .u64 0, .int .u64 0] none)]
def iP (A B : Nat → Int) (k : Nat) (st : St) : Prop := ∃ i, k + i = 3 ∧ st.d = [] ∧ st.h = PH B (plW A B i) ∧ st.t 2 = .ptr 0 0 ∧ st.t 3 = .ptr 1 0 ∧ st.t 4 = .ptr 2 0 ∧ st.t 5 = .int .u64 (plC A B i) ∧ st.t 7 = .int .i64 i
theorem adcV_c {h : Hp} {a b c : Int} (hc : 0 ≤ c ∧ c ≤ 1) : adcV h (.int .u64 a) (.int .u64 b) (.int .u64 c) = some (.val (.tup [.int .u64 ((a.toNat + b.toNat + c.toNat) % 2 ^ 64 : Nat), .int .u64 ((a.toNat + b.toNat + c.toNat) / 2 ^ 64 : Nat)]) h) := by
  simp only [adcV]; rw [if_pos hc]
theorem plus_run {A B : Nat → Int} (ha : R64 A) (hb : R64 B) : ACalls DX 29 [.agg (CK .u64 3 A), .agg (CK .u64 3 B)] [] fun r _ => r = .ret (.agg (CK .u64 3 (plS A B))) := by
  have o1 : ∀ w, (∀ c ∈ CK .u64 3 w, c.one = true) = True := fun w => eq_true CK_one
  refine acall DX.ok ck29 rfl ?_
  simp [F29, V.cells, o1]
  refine vc_loop _ _ _ (iP A B) 3 ⟨0, by simp, by simp, by simp [plW_0, PH], by simp, by simp, by simp, by simp [plC], by simp⟩ ?_
  rintro k ⟨t, h, d⟩ ⟨i, hk, hd, hh, t2, t3, t4, t5, t7⟩
  simp only at hd hh t2 t3 t4 t5 t7
  subst hd hh
  by_cases hi : i < 3
  · have hi1 : (i : Int) < 3 := by omega
    have hi2 : ¬ (3 : Int) ≤ i := by omega
    have i0 : iadaV 3 1 (.ptr 0 0) (.int .i64 i) = some (.ptr 0 i) := by rw [iada_ok hi]; simp
    have i1 : iadaV 3 1 (.ptr 1 0) (.int .i64 i) = some (.ptr 1 i) := by rw [iada_ok hi]; simp
    have r0 : rd (PH B (plW A B i)) (.ptr 0 i) 1 = some [.int .u64 (A i)] := by
      show sub (CK .u64 3 _) i 1 = _
      rw [CK_sub1 hi]; simp [plW]
    have r1 : rd (PH B (plW A B i)) (.ptr 1 i) 1 = some [.int .u64 (B i)] := by
      show sub (CK .u64 3 _) i 1 = _
      rw [CK_sub1 hi]
    have hc := plC_01 ha hb i
    have s0 : ∀ y, stV (PH B (plW A B i)) 1 (.ptr 0 i) (.int .u64 y) = some (.skip (PH B (upd1 (plW A B i) i y))) := fun y => by
      rw [st_CK1 (h := PH B (plW A B i)) (n := 3) (k := .u64) (w := plW A B i) (ty := none) rfl hi]; rfl
    have w3 : IntKind.i64.wrap ((i : Int) + 1) = (i : Int) + 1 := by rw [wrap64 (by omega) (by omega)]
    have ad : adcV (PH B (plW A B i)) (.int .u64 (A i)) (.int .u64 (B i)) (.int .u64 (plC A B i)) = some (.val (.tup [.int .u64 (plS A B i), .int .u64 (plC A B (i + 1))]) (PH B (plW A B i))) := adcV_c hc
    simp [t7, hi, hi1, hi2]
    refine vD_lin ?_
    simp [reL, vLs, vLg, vLq, dstO, nth_zero, nth_succ, nd, tell, fadV, asV, aop_iadaV, t2, t3, t4, t5, i0, i1, r0, r1, aop_adcV, ad, s0, t7, w3]
    exact ⟨k - 1, by omega, i + 1, by omega, rfl, by rw [← plW_step], by simp [t2], by simp [t3], by simp [t4], by simp [plC], by simp⟩
  · have hi3 : i = 3 := by omega
    subst hi3
    have rA : rd (PH B (plW A B 3)) (.ptr 0 0) 3 = some (CK .u64 3 (plW A B 3)) := rd_all rfl
    have sA : stV (PH B (plW A B 3)) 3 (.ptr 2 0) (.agg (CK .u64 3 (plW A B 3))) = some (.skip ((PH B (plW A B 3)).set 2 (some (.cells (CK .u64 3 (plW A B 3)) none)))) := st_all (old := [.int .u64 0, .int .u64 0, .int .u64 0]) rfl rfl (CK_len ..) CK_one
    have e : CK .u64 3 (plW A B 3) = CK .u64 3 (plS A B) := rfl
    simp [t7, t2, t4, rA, sA, asV]
    refine resV_c1 ?_
    simp [t4]
    rw [← e]
    exact rd_allc rfl (CK_len ..)
theorem plus_spec {A B : Nat → Int} (ha : R64 A) (hb : R64 B) : PCalls DX 29 [.agg (CK .u64 3 A), .agg (CK .u64 3 B)] fun r => r = .ret (.agg (CK .u64 3 (plS A B))) :=
  PCalls.of (plus_run ha hb) fun r hr => by subst hr; exact .agg _ (isK_low (CK_is ..))
end Go.Proofs.YtfinnljkcgglfaaDoor
namespace Go.Proofs.YtfinnljkcgglfaaDoor
open Go Go.Vs Go.RowKit
set_option maxRecDepth 100000
set_option linter.unusedSimpArgs false
set_option linter.unusedVariables false
attribute [local simp] unV extV wanted strBin vpt vpn vmp nilV_ptr vic

/-- One product more: w, and what is carried. -/
noncomputable def tmS (A R : Nat → Int) (i k : Nat) (s : (Nat → Int) × Int) : (Nat → Int) × Int :=
  (upd1 s.1 (i + k) (adL (adL (IntKind.u64.wrap (A i * R k)) (s.1 (i + k))) s.2),
   IntKind.u64.wrap (IntKind.u64.wrap (mulH (A i) (R k) + adC (IntKind.u64.wrap (A i * R k)) (s.1 (i + k))) + adC (adL (IntKind.u64.wrap (A i * R k)) (s.1 (i + k))) s.2))
noncomputable def tmI (A R : Nat → Int) (w : Nat → Int) (i : Nat) : Nat → (Nat → Int) × Int
  | 0 => (w, 0)
  | k + 1 => tmS A R i k (tmI A R w i k)
noncomputable def tmO (A R : Nat → Int) : Nat → (Nat → Int)
  | 0 => fun _ => 0
  | i + 1 => upd1 (tmI A R (tmO A R i) i 2).1 (i + 2) (IntKind.u64.wrap ((tmI A R (tmO A R i) i 2).1 (i + 2) + (tmI A R (tmO A R i) i 2).2))
theorem upd1_r {w : Nat → Int} {i : Nat} {x : Int} (h : R64 w) (hx : 0 ≤ x ∧ x < 18446744073709551616) : R64 (upd1 w i x) := fun p => by
  unfold upd1; split
  · exact hx
  · exact h p
theorem adL_r (a c : Int) : 0 ≤ adL a c ∧ adL a c < 18446744073709551616 := by unfold adL; omega
theorem tmI_r {A R w : Nat → Int} {i : Nat} (h : R64 w) : ∀ k, R64 (tmI A R w i k).1
  | 0 => h
  | k + 1 => upd1_r (tmI_r h k) (adL_r ..)
theorem tmO_r {A R : Nat → Int} : ∀ i, R64 (tmO A R i)
  | 0 => fun p => by show (0 : Int) ≤ 0 ∧ (0 : Int) < _; omega
  | i + 1 => upd1_r (tmI_r (tmO_r i) 2) (wrap_range _)
/-- Three numbers. -/
def tri (a b c : Int) : Nat → Int := fun p => match p with
  | 0 => a
  | 1 => b
  | 2 => c
  | _ => 0
theorem tri_r {a b c : Int} (ha : 0 ≤ a ∧ a < 18446744073709551616) (hb : 0 ≤ b ∧ b < 18446744073709551616) (hc : 0 ≤ c ∧ c < 18446744073709551616) : R64 (tri a b c) := fun p => by
  match p with
  | 0 => exact ha
  | 1 => exact hb
  | 2 => exact hc
  | p + 3 => show (0 : Int) ≤ 0 ∧ (0 : Int) < _; omega
def TH (A R w : Nat → Int) : Hp := [some (.cells (CK .u64 3 A) none), some (.cells (CK .u64 2 R) none), some (.cells [.int .u64 0, .int .u64 0, .int .u64 0] none), some (.cells (CK .u64 5 w) none)]
def iTo (A R : Nat → Int) (k : Nat) (st : St) : Prop := ∃ i, k + i = 3 ∧ st.d = [] ∧ st.h = TH A R (tmO A R i) ∧ st.t 3 = .ptr 1 0 ∧ st.t 4 = .ptr 2 0 ∧ st.t 5 = .ptr 3 0 ∧ st.t 17 = .agg (CK .u64 3 A) ∧ st.t 18 = .int .i64 i
def iTi (A R : Nat → Int) (i : Nat) (m : Nat) (st : St) : Prop := ∃ k, m + k = 2 ∧ st.d = [] ∧ st.h = TH A R (tmI A R (tmO A R i) i k).1 ∧ st.t 3 = .ptr 1 0 ∧ st.t 4 = .ptr 2 0 ∧ st.t 5 = .ptr 3 0 ∧ st.t 17 = .agg (CK .u64 3 A) ∧ st.t 18 = .int .i64 i ∧ st.t 6 = .int .i64 i ∧ st.t 7 = .int .u64 (A i) ∧ st.t 22 = .agg (CK .u64 2 R) ∧ st.t 23 = .int .i64 k ∧ st.t 8 = .int .u64 (tmI A R (tmO A R i) i k).2
theorem idxT {n : Nat} {A : Nat → Int} {i : Nat} (hi : i < n) : idxaV n 1 false (.agg (CK .u64 n A)) (.int .i64 i) = some (.int .u64 (A i)) := by
  simp only [idxaV, Int.toNat_natCast, Nat.mul_one]
  rw [if_pos (by omega), CK_sub1 hi]
  rfl
theorem iada1 {len b i : Nat} (hi : i < len) : iadaV len 1 (.ptr b 0) (.int .i64 i) = some (.ptr b i) := by rw [iada_ok hi]; simp
theorem thR (A R w : Nat → Int) : rd (TH A R w) (.ptr 1 0) 2 = some (CK .u64 2 R) := rd_all rfl
theorem thA (A R w : Nat → Int) : rd (TH A R w) (.ptr 0 0) 3 = some (CK .u64 3 A) := rd_all rfl
theorem thW (A R w : Nat → Int) {p : Nat} (hp : p < 5) : rd (TH A R w) (.ptr 3 p) 1 = some [.int .u64 (w p)] := by
  show sub (CK .u64 5 w) p 1 = _
  exact CK_sub1 hp
theorem thS (A R w : Nat → Int) {p : Nat} (hp : p < 5) (x : Int) : stV (TH A R w) 1 (.ptr 3 p) (.int .u64 x) = some (.skip (TH A R (upd1 w p x))) := by
  rw [st_CK1 (h := TH A R w) (n := 5) (k := .u64) (w := w) (ty := none) rfl hp]; rfl
theorem rd3_0 (a b c : Option Blk) (w : Nat → Int) (l : Hp) : rd (a :: b :: c :: some (.cells (CK .u64 5 w) none) :: l) (.ptr 3 0) 1 = some [.int .u64 (w 0)] := rfl
theorem rd3_1 (a b c : Option Blk) (w : Nat → Int) (l : Hp) : rd (a :: b :: c :: some (.cells (CK .u64 5 w) none) :: l) (.ptr 3 1) 1 = some [.int .u64 (w 1)] := rfl
theorem rd3_2 (a b c : Option Blk) (w : Nat → Int) (l : Hp) : rd (a :: b :: c :: some (.cells (CK .u64 5 w) none) :: l) (.ptr 3 2) 1 = some [.int .u64 (w 2)] := rfl
theorem rd3_3 (a b c : Option Blk) (w : Nat → Int) (l : Hp) : rd (a :: b :: c :: some (.cells (CK .u64 5 w) none) :: l) (.ptr 3 3) 1 = some [.int .u64 (w 3)] := rfl
theorem rd3_4 (a b c : Option Blk) (w : Nat → Int) (l : Hp) : rd (a :: b :: c :: some (.cells (CK .u64 5 w) none) :: l) (.ptr 3 4) 1 = some [.int .u64 (w 4)] := rfl
def I3 (x y z : Int) : List V := [.int .u64 x, .int .u64 y, .int .u64 z]
theorem tst4 (a b c d : Option Blk) (l : Hp) (x y z : Int) : stV (a :: b :: c :: d :: some (.cells [.int .u64 0, .int .u64 0, .int .u64 0] none) :: l) 3 (.ptr 4 0) (.agg [.int .u64 x, .int .u64 y, .int .u64 z]) = some (.skip (a :: b :: c :: d :: some (.cells (I3 x y z) none) :: l)) := by
  exact st_all (n := 3) (old := [.int .u64 0, .int .u64 0, .int .u64 0]) (cs := [.int .u64 x, .int .u64 y, .int .u64 z]) (ty := none) rfl rfl rfl (by simp [V.one])
theorem tst5 (a b c d e : Option Blk) (l : Hp) (x y z : Int) : stV (a :: b :: c :: d :: e :: some (.cells [.int .u64 0, .int .u64 0, .int .u64 0] none) :: l) 3 (.ptr 5 0) (.agg [.int .u64 x, .int .u64 y, .int .u64 z]) = some (.skip (a :: b :: c :: d :: e :: some (.cells (I3 x y z) none) :: l)) := by
  exact st_all (n := 3) (old := [.int .u64 0, .int .u64 0, .int .u64 0]) (cs := [.int .u64 x, .int .u64 y, .int .u64 z]) (ty := none) rfl rfl rfl (by simp [V.one])
theorem tst6 (a b c d e f : Option Blk) (l : Hp) (x y z : Int) : stV (a :: b :: c :: d :: e :: f :: some (.cells [.int .u64 0, .int .u64 0, .int .u64 0] none) :: l) 3 (.ptr 6 0) (.agg [.int .u64 x, .int .u64 y, .int .u64 z]) = some (.skip (a :: b :: c :: d :: e :: f :: some (.cells (I3 x y z) none) :: l)) := by
  exact st_all (n := 3) (old := [.int .u64 0, .int .u64 0, .int .u64 0]) (cs := [.int .u64 x, .int .u64 y, .int .u64 z]) (ty := none) rfl rfl rfl (by simp [V.one])
theorem tst2 (a b : Option Blk) (l : Hp) (w : Nat → Int) : stV (a :: b :: some (.cells [.int .u64 0, .int .u64 0, .int .u64 0] none) :: l) 3 (.ptr 2 0) (.agg (CK .u64 3 w)) = some (.skip (a :: b :: some (.cells (CK .u64 3 w) none) :: l)) := by
  exact st_all (n := 3) (old := [.int .u64 0, .int .u64 0, .int .u64 0]) (ty := none) rfl rfl (CK_len ..) CK_one
theorem rd4 (a b c d : Option Blk) (l : Hp) (x y z : Int) : rd (a :: b :: c :: d :: some (.cells (I3 x y z) none) :: l) (.ptr 4 0) 3 = some (I3 x y z) := rfl
theorem rd5 (a b c d e : Option Blk) (l : Hp) (x y z : Int) : rd (a :: b :: c :: d :: e :: some (.cells (I3 x y z) none) :: l) (.ptr 5 0) 3 = some (I3 x y z) := rfl
theorem rd6 (a b c d e f : Option Blk) (l : Hp) (x y z : Int) : rd (a :: b :: c :: d :: e :: f :: some (.cells (I3 x y z) none) :: l) (.ptr 6 0) 3 = some (I3 x y z) := rfl
def anE64 (x y : Int) : Int := IntKind.u64.wrap (((x % 2 ^ IntKind.u64.bits).toNat &&& (y % 2 ^ IntKind.u64.bits).toNat : Nat) : Int)

def T30 : C := (.seq (.reg [⟨some 69, .iada 5 1 (.t 5) (.k (.int .i64 0)), none⟩,
 ⟨some 70, .load 1 false (.t 69), none⟩,
 ⟨some 71, .iada 5 1 (.t 5) (.k (.int .i64 1)), none⟩,
 ⟨some 72, .load 1 false (.t 71), none⟩,
 ⟨some 73, .iada 5 1 (.t 5) (.k (.int .i64 2)), none⟩,
 ⟨some 74, .load 1 false (.t 73), none⟩,
 ⟨some 75, .bin .and .num (.t 74) (.k (.int .u64 3)), none⟩,
 ⟨some 76, .build [(.int .u64 0), (.int .u64 0), (.int .u64 0)] [(0, 1, (.t 70)), (1, 1, (.t 72)), (2, 1, (.t 75))], none⟩,
 ⟨some 14, .new [(.int .u64 0), (.int .u64 0), (.int .u64 0)] none, none⟩,
 ⟨none, .store 3 (.t 14) (.t 76), none⟩])
 (.seq (.reg [⟨some 77, .iada 5 1 (.t 5) (.k (.int .i64 2)), none⟩,
 ⟨some 78, .load 1 false (.t 77), none⟩,
 ⟨some 79, .bin .andNot .num (.t 78) (.k (.int .u64 3)), none⟩,
 ⟨some 80, .iada 5 1 (.t 5) (.k (.int .i64 3)), none⟩,
 ⟨some 81, .load 1 false (.t 80), none⟩,
 ⟨some 82, .iada 5 1 (.t 5) (.k (.int .i64 4)), none⟩,
 ⟨some 83, .load 1 false (.t 82), none⟩,
 ⟨some 84, .build [(.int .u64 0), (.int .u64 0), (.int .u64 0)] [(0, 1, (.t 79)), (1, 1, (.t 81)), (2, 1, (.t 83))], none⟩,
 ⟨some 15, .new [(.int .u64 0), (.int .u64 0), (.int .u64 0)] none, none⟩,
 ⟨none, .store 3 (.t 15) (.t 84), none⟩])
 (.seq (.reg [⟨some 85, .iada 5 1 (.t 5) (.k (.int .i64 2)), none⟩,
 ⟨some 86, .load 1 false (.t 85), none⟩,
 ⟨some 87, .bin .shr .num (.t 86) (.k (.int .u64 2)), none⟩,
 ⟨some 88, .iada 5 1 (.t 5) (.k (.int .i64 3)), none⟩,
 ⟨some 89, .load 1 false (.t 88), none⟩,
 ⟨some 90, .bin .shl .num (.t 89) (.k (.int .u64 62)), none⟩,
 ⟨some 91, .bin .or .num (.t 87) (.t 90), none⟩,
 ⟨some 92, .iada 5 1 (.t 5) (.k (.int .i64 3)), none⟩,
 ⟨some 93, .load 1 false (.t 92), none⟩,
 ⟨some 94, .bin .shr .num (.t 93) (.k (.int .u64 2)), none⟩,
 ⟨some 95, .iada 5 1 (.t 5) (.k (.int .i64 4)), none⟩,
 ⟨some 96, .load 1 false (.t 95), none⟩,
 ⟨some 97, .bin .shl .num (.t 96) (.k (.int .u64 62)), none⟩,
 ⟨some 98, .bin .or .num (.t 94) (.t 97), none⟩,
 ⟨some 99, .iada 5 1 (.t 5) (.k (.int .i64 4)), none⟩,
 ⟨some 100, .load 1 false (.t 99), none⟩,
 ⟨some 101, .bin .shr .num (.t 100) (.k (.int .u64 2)), none⟩,
 ⟨some 102, .build [(.int .u64 0), (.int .u64 0), (.int .u64 0)] [(0, 1, (.t 91)), (1, 1, (.t 98)), (2, 1, (.t 101))], none⟩,
 ⟨some 16, .new [(.int .u64 0), (.int .u64 0), (.int .u64 0)] none, none⟩,
 ⟨none, .store 3 (.t 16) (.t 102), none⟩])
 (.seq (.dreg [⟨some 103, .load 3 true (.t 14), none⟩,
 ⟨some 104, .load 3 true (.t 15), none⟩,
 ⟨some 105, .call (.k (.fn (.func 29) [] [])) [(.t 103), (.t 104)], none⟩,
 ⟨some 106, .load 3 true (.t 16), none⟩,
 ⟨some 107, .call (.k (.fn (.func 29) [] [])) [(.t 105), (.t 106)], none⟩,
 ⟨none, .store 3 (.t 4) (.t 107), none⟩] (.lin [] [(0, none), (1, none), (3, none), (2, some [3]), (4, some []), (5, some [])]))
 .ret))))
def F30' : Fun :=
 ⟨108, 2, [.c 4 3 true],
 (.seq (.reg [⟨some 2, .box none (.t 0), none⟩,
 ⟨some 3, .box none (.t 1), none⟩,
 ⟨some 4, .new [(.int .u64 0), (.int .u64 0), (.int .u64 0)] none, none⟩])
 (.seq (.reg [⟨some 5, .new [(.int .u64 0), (.int .u64 0), (.int .u64 0), (.int .u64 0), (.int .u64 0)] none, none⟩])
 (.seq (.seq (.reg [⟨some 17, .load 3 true (.t 2), none⟩,
 ⟨some 18, .mov (.k (.int .i64 0)), none⟩])
 (.block 0
 (.loop
 (.seq (.reg [⟨some 19, .bin .lss .num (.t 18) (.k (.int .i64 3)), none⟩])
 (.seq (.cond (.t 19)
 .skip
 (.exit 0))
 (.seq (.block 1
 (.seq (.reg [⟨some 20, .mov (.t 18), none⟩,
 ⟨some 21, .idxa 3 1 false (.t 17) (.t 18), none⟩,
 ⟨some 6, .mov (.t 20), none⟩,
 ⟨some 7, .mov (.t 21), none⟩])
 (.seq (.reg [⟨some 8, .mov (.k (.int .u64 0)), none⟩])
 (.seq (.seq (.reg [⟨some 22, .load 2 true (.t 3), none⟩,
 ⟨some 23, .mov (.k (.int .i64 0)), none⟩])
 (.block 2
 (.loop
 (.seq (.reg [⟨some 24, .bin .lss .num (.t 23) (.k (.int .i64 2)), none⟩])
 (.seq (.cond (.t 24)
 .skip
 (.exit 2))
 (.seq (.block 3
 (.seq (.reg [⟨some 25, .mov (.t 23), none⟩,
 ⟨some 26, .idxa 2 1 false (.t 22) (.t 23), none⟩,
 ⟨some 9, .mov (.t 25), none⟩,
 ⟨some 10, .mov (.t 26), none⟩])
 (.seq (.reg [⟨some 28, .mov (.t 7), none⟩,
 ⟨some 29, .mov (.t 10), none⟩,
 ⟨some 30, .call (.k (.fn (.func 35) [] [])) [(.t 28), (.t 29)], none⟩,
 ⟨some 27, .mov (.t 30), none⟩,
 ⟨some 31, .ext (.t 27) 0, none⟩,
 ⟨some 32, .ext (.t 27) 1, none⟩,
 ⟨some 11, .mov (.t 31), none⟩,
 ⟨some 12, .mov (.t 32), none⟩])
 (.seq (.reg [⟨some 13, .mov (.k (.int .u64 0)), none⟩])
 (.seq (.reg [⟨some 34, .mov (.t 12), none⟩,
 ⟨some 35, .mov (.t 6), none⟩,
 ⟨some 36, .mov (.t 9), none⟩,
 ⟨some 37, .bin .add .num (.t 35) (.t 36), none⟩,
 ⟨some 38, .iada 5 1 (.t 5) (.t 37), none⟩,
 ⟨some 39, .load 1 false (.t 38), none⟩,
 ⟨some 40, .j (.adc (.t 34) (.t 39) (.k (.int .u64 0))), none⟩,
 ⟨some 33, .mov (.t 40), none⟩,
 ⟨some 41, .ext (.t 33) 0, none⟩,
 ⟨some 42, .ext (.t 33) 1, none⟩,
 ⟨some 12, .mov (.t 41), none⟩,
 ⟨some 13, .mov (.t 42), none⟩])
 (.seq (.reg [⟨some 43, .mov (.t 11), none⟩,
 ⟨some 44, .mov (.t 13), none⟩,
 ⟨some 45, .bin .add .num (.t 43) (.t 44), none⟩,
 ⟨some 11, .mov (.t 45), none⟩])
 (.seq (.reg [⟨some 47, .mov (.t 12), none⟩,
 ⟨some 48, .mov (.t 8), none⟩,
 ⟨some 49, .j (.adc (.t 47) (.t 48) (.k (.int .u64 0))), none⟩,
 ⟨some 46, .mov (.t 49), none⟩,
 ⟨some 50, .ext (.t 46) 0, none⟩,
 ⟨some 51, .ext (.t 46) 1, none⟩,
 ⟨some 12, .mov (.t 50), none⟩,
 ⟨some 13, .mov (.t 51), none⟩])
 (.seq (.reg [⟨some 52, .mov (.t 11), none⟩,
 ⟨some 53, .mov (.t 13), none⟩,
 ⟨some 54, .bin .add .num (.t 52) (.t 53), none⟩,
 ⟨some 8, .mov (.t 54), none⟩])
 (.reg [⟨some 55, .mov (.t 6), none⟩,
 ⟨some 56, .mov (.t 9), none⟩,
 ⟨some 57, .bin .add .num (.t 55) (.t 56), none⟩,
 ⟨some 58, .mov (.t 12), none⟩,
 ⟨some 59, .iada 5 1 (.t 5) (.t 57), none⟩,
 ⟨none, .store 1 (.t 59) (.t 58), none⟩])))))))))
 (.reg [⟨some 60, .bin .add .num (.t 23) (.k (.int .i64 1)), none⟩,
 ⟨some 23, .mov (.t 60), none⟩])))))))
 (.reg [⟨some 61, .mov (.t 6), none⟩,
 ⟨some 62, .bin .add .num (.t 61) (.k (.int .i64 2)), none⟩,
 ⟨some 63, .iada 5 1 (.t 5) (.t 62), none⟩,
 ⟨some 64, .load 1 false (.t 63), none⟩,
 ⟨some 65, .mov (.t 8), none⟩,
 ⟨some 66, .bin .add .num (.t 64) (.t 65), none⟩,
 ⟨some 67, .iada 5 1 (.t 5) (.t 62), none⟩,
 ⟨none, .store 1 (.t 67) (.t 66), none⟩])))))
 (.reg [⟨some 68, .bin .add .num (.t 18) (.k (.int .i64 1)), none⟩,
 ⟨some 18, .mov (.t 68), none⟩])))))))
 T30)))⟩
theorem F30_eq : F30 = F30' := rfl


def plT (a b c a' b' c' : Int) (i : Nat) : Int := plS (tri a b c) (tri a' b' c') i
theorem plT_r (a b c a' b' c' : Int) (i : Nat) : 0 ≤ plT a b c a' b' c' i ∧ plT a b c a' b' c' i < 18446744073709551616 := plS_r _ _ i
theorem I3_low (a b c : Int) : Low 0 (.agg (I3 a b c)) := .agg _ (by simp [I3]; exact ⟨.int _ _, .int _ _, .int _ _⟩)
def Rg (a : Int) : Prop := 0 ≤ a ∧ a < 18446744073709551616
theorem plus3 {a b c a' b' c' : Int} (h1 : Rg a) (h2 : Rg b) (h3 : Rg c) (h4 : Rg a') (h5 : Rg b') (h6 : Rg c') : PCalls DX 29 [.agg (I3 a b c), .agg (I3 a' b' c')] fun r => r = .ret (.agg (I3 (plT a b c a' b' c' 0) (plT a b c a' b' c' 1) (plT a b c a' b' c' 2))) :=
  plus_spec (A := tri a b c) (B := tri a' b' c') (tri_r h1 h2 h3) (tri_r h4 h5 h6)
theorem plus3_at {a b c a' b' c' : Int} (h1 : Rg a) (h2 : Rg b) (h3 : Rg c) (h4 : Rg a') (h5 : Rg b') (h6 : Rg c') (h : Hp) : ACalls DX 29 [.agg (I3 a b c), .agg (I3 a' b' c')] h fun r h' => r = .ret (.agg (I3 (plT a b c a' b' c' 0) (plT a b c a' b' c' 1) (plT a b c a' b' c' 2))) ∧ h' = h :=
  PCalls.at DX.low (plus3 h1 h2 h3 h4 h5 h6) (fun v hv => by simp at hv; rcases hv with rfl | rfl <;> exact I3_low ..) h
theorem fdiv_r {x : Int} (h : Rg x) (n : Nat) : Rg (x.fdiv (2 ^ n)) := by
  have hp : (0 : Int) < 2 ^ n := Int.pow_pos (by decide)
  rw [Int.fdiv_eq_ediv_of_nonneg _ (Int.le_of_lt hp)]
  exact ⟨Int.ediv_nonneg h.1 (Int.le_of_lt hp), Int.lt_of_le_of_lt (Int.ediv_le_self _ h.1) h.2⟩
theorem tst2' (a b : Option Blk) (l : Hp) (x y z : Int) : stV (a :: b :: some (.cells [.int .u64 0, .int .u64 0, .int .u64 0] none) :: l) 3 (.ptr 2 0) (.agg (I3 x y z)) = some (.skip (a :: b :: some (.cells (I3 x y z) none) :: l)) := tst2 a b l (tri x y z)
set_option maxHeartbeats 1000000 in
theorem times_tail {A R w : Nat → Int} (hw : R64 w) : ∃ x y z : Int, Rg x ∧ Rg y ∧ Rg z ∧ ∀ t Q, t 4 = .ptr 2 0 → t 5 = .ptr 3 0 → (∀ t' h', t' 4 = .ptr 2 0 → rd h' (.ptr 2 0) 3 = some (I3 x y z) → Q .ret ⟨t', h', []⟩) → vc DX T30 Q ⟨t, TH A R w, []⟩ := by
  apply Exists.intro
  apply Exists.intro
  apply Exists.intro
  refine ⟨?hx, ?hy, ?hz, ?run⟩
  case run =>
    intro t Q t4 t5 hQ
    have j0 : iadaV 5 1 (.ptr 3 0) (.int .i64 0) = some (.ptr 3 0) := rfl
    have j1 : iadaV 5 1 (.ptr 3 0) (.int .i64 1) = some (.ptr 3 1) := rfl
    have j2 : iadaV 5 1 (.ptr 3 0) (.int .i64 2) = some (.ptr 3 2) := rfl
    have j3 : iadaV 5 1 (.ptr 3 0) (.int .i64 3) = some (.ptr 3 3) := rfl
    have j4 : iadaV 5 1 (.ptr 3 0) (.int .i64 4) = some (.ptr 3 4) := rfl
    have hf : ∀ a b c : Int, fillV [.int .u64 0, .int .u64 0, .int .u64 0] [(0, 1, .int .u64 a), (1, 1, .int .u64 b), (2, 1, .int .u64 c)] = some [.int .u64 a, .int .u64 b, .int .u64 c] := fun a b c => by simp [fillV, setAll, V.cells, V.one]
    simp [T30, TH, t5, aop_iadaV, j0, j1, j2, j3, j4, rd3_0, rd3_1, rd3_2, rd3_3, rd3_4, asV, hf, tst4, tst5, tst6]
    refine vD_lin ?_
    simp [reL, vLs, vLg, vLq, dstO, nth_zero, nth_succ, nd, tell, fadV, asV, rd4, rd5, rd6]
    refine (plus3_at (hw 0) (hw 1) (wrap_range _) (wrap_range _) (hw 3) (hw 4) _).mono ?_
    rintro r h' ⟨rfl, rfl⟩
    simp [rd4, rd5, rd6, asV]
    refine (plus3_at (plT_r ..) (plT_r ..) (plT_r ..) (wrap_range _) (wrap_range _) (fdiv_r (hw 4) _) _).mono ?_
    rintro r h' ⟨rfl, rfl⟩
    simp [t4, tst2']
    exact hQ _ _ (by simp [t4]) rfl
  case hx => exact plT_r ..
  case hy => exact plT_r ..
  case hz => exact plT_r ..

set_option maxHeartbeats 1000000 in
theorem tagTimes_run (A R : Nat → Int) : ∃ x y z : Int, Rg x ∧ Rg y ∧ Rg z ∧ ACalls DX 30 [.agg (CK .u64 3 A), .agg (CK .u64 2 R)] [] fun r _ => r = .ret (.agg (I3 x y z)) := by
  obtain ⟨x, y, z, hx, hy, hz, hT⟩ := times_tail (A := A) (R := R) (w := tmO A R 3) (tmO_r 3)
  refine ⟨x, y, z, hx, hy, hz, ?run⟩
  case run =>
    have o1 : ∀ n w, (∀ c ∈ CK .u64 n w, c.one = true) = True := fun n w => eq_true CK_one
    refine acall DX.ok ck30 rfl ?_
    have hT0 : [some (.cells (CK .u64 3 A) none), some (.cells (CK .u64 2 R) none), some (.cells [.int .u64 0, .int .u64 0, .int .u64 0] none), some (.cells [.int .u64 0, .int .u64 0, .int .u64 0, .int .u64 0, .int .u64 0] none)] = TH A R (tmO A R 0) := rfl
    simp [F30_eq, F30', V.cells, o1, hT0, thA, asV]
    refine vc_loop _ _ _ (iTo A R) 3 ⟨0, by simp, by simp, by simp, by simp, by simp, by simp, by simp, by simp⟩ ?_
    rintro k ⟨t, h, d⟩ ⟨i, hk, hd, hh, t3, t4, t5, t17, t18⟩
    simp only at hd hh t3 t4 t5 t17 t18
    subst hd hh
    by_cases hi : i < 3
    · have hi1 : (i : Int) < 3 := by omega
      have hi2 : ¬ (3 : Int) ≤ i := by omega
      simp [t18, t17, t3, hi, hi1, hi2, aop_idxaV, idxT hi, thR, asV]
      refine vc_loop _ _ _ (iTi A R i) 2 ⟨0, by simp, by simp, rfl, by simp [t3], by simp [t4], by simp [t5], by simp [t17], by simp [t18], by simp, by simp, by simp, by simp, by simp [tmI]⟩ ?_
      clear t3 t4 t5 t17 t18
      rintro m ⟨t, h, d⟩ ⟨j, hm, hd, hh, t3, t4, t5, t17, t18, t6, t7, t22, t23, t8⟩
      simp only at hd hh t3 t4 t5 t17 t18 t6 t7 t22 t23 t8
      subst hd hh
      have w1 : IntKind.i64.wrap ((i : Int) + 1) = (i : Int) + 1 := by rw [wrap64 (by omega) (by omega)]
      by_cases hj : j < 2
      · have hj1 : (j : Int) < 2 := by omega
        have hj2 : ¬ (2 : Int) ≤ j := by omega
        have wj : IntKind.i64.wrap ((j : Int) + 1) = (j : Int) + 1 := by rw [wrap64 (by omega) (by omega)]
        have wij : IntKind.i64.wrap ((i : Int) + (j : Int)) = ((i + j : Nat) : Int) := by rw [wrap64 (by omega) (by omega)]; omega
        simp [t23, t22, hj, hj1, hj2, aop_idxaV, idxT hj, t7]
        refine (PCalls.at DX.low (mul64 (A i) (R j)) (fun v hv => by simp at hv; rcases hv with rfl | rfl <;> exact .int _ _) _).mono ?_
        rintro r h' ⟨rfl, rfl⟩
        have ia := iada1 (len := 5) (b := 3) (i := i + j) (by omega)
        have rw1 := thW A R (tmI A R (tmO A R i) i j).1 (p := i + j) (by omega)
        have sw := thS A R (tmI A R (tmO A R i) i j).1 (p := i + j) (by omega)
        have a1 := adcV_0 (TH A R (tmI A R (tmO A R i) i j).1)
        generalize hq : i + j = q at ia rw1 sw wij
        simp [t6, wij, t5, aop_iadaV, ia, rw1, asV, aop_adcV, a1, t8, sw, t23, wj]
        exact ⟨m - 1, by omega, j + 1, by omega, rfl, by subst hq; rfl, by simp [t3], by simp [t4], by simp [t5], by simp [t17], by simp [t18], by simp [t6], by simp [t7], by simp [t22], by simp, by subst hq; simp [tmI, tmS]⟩
      · have hj2 : j = 2 := by omega
        subst hj2
        have wi2 : IntKind.i64.wrap ((i : Int) + 2) = ((i + 2 : Nat) : Int) := by rw [wrap64 (by omega) (by omega)]; omega
        have ia := iada1 (len := 5) (b := 3) (i := i + 2) (by omega)
        have rw1 := thW A R (tmI A R (tmO A R i) i 2).1 (p := i + 2) (by omega)
        have sw := thS A R (tmI A R (tmO A R i) i 2).1 (p := i + 2) (by omega)
        generalize hq : i + 2 = q at ia rw1 sw wi2
        simp [t23, t6, wi2, t5, aop_iadaV, ia, rw1, asV, t8, sw, t18, w1]
        exact ⟨k - 1, by omega, i + 1, by omega, rfl, by subst hq; rfl, by simp [t3], by simp [t4], by simp [t5], by simp [t17], by simp⟩
    · have hi3 : i = 3 := by omega
      subst hi3
      simp [t18]
      refine hT _ _ (by simp [t4]) (by simp [t5]) fun t' h' t4' hr => ?_
      refine ⟨rfl, _, resV_c1 (cs := I3 x y z) ?_, rfl⟩
      show rd h' (t' 4) 3 = _
      rw [t4']; exact hr
theorem tagTimes_ex (A R : Nat → Int) : ∃ p : Int × Int × Int, (Rg p.1 ∧ Rg p.2.1 ∧ Rg p.2.2) ∧ PCalls DX 30 [.agg (CK .u64 3 A), .agg (CK .u64 2 R)] fun r => r = .ret (.agg (I3 p.1 p.2.1 p.2.2)) := by
  obtain ⟨x, y, z, hx, hy, hz, H⟩ := tagTimes_run A R
  exact ⟨(x, y, z), ⟨hx, hy, hz⟩, PCalls.of H fun r hr => by subst hr; exact I3_low ..⟩
noncomputable def tim3 (a b c r s : Int) : Int × Int × Int := Classical.choose (tagTimes_ex (tri a b c) (tri r s 0))
theorem tim3_r (a b c r s : Int) : Rg (tim3 a b c r s).1 ∧ Rg (tim3 a b c r s).2.1 ∧ Rg (tim3 a b c r s).2.2 := (Classical.choose_spec (tagTimes_ex (tri a b c) (tri r s 0))).1
theorem tim3_at (a b c r s : Int) (h : Hp) : ACalls DX 30 [.agg (I3 a b c), .agg [.int .u64 r, .int .u64 s]] h fun v h' => v = .ret (.agg (I3 (tim3 a b c r s).1 (tim3 a b c r s).2.1 (tim3 a b c r s).2.2)) ∧ h' = h :=
  PCalls.at DX.low (show PCalls DX 30 [.agg (I3 a b c), .agg [.int .u64 r, .int .u64 s]] _ from (Classical.choose_spec (tagTimes_ex (tri a b c) (tri r s 0))).2) (fun v hv => by
    simp at hv; rcases hv with rfl | rfl
    · exact I3_low ..
    · exact .agg _ (by simp; exact ⟨.int _ _, .int _ _⟩)) h
end Go.Proofs.YtfinnljkcgglfaaDoor
namespace Go.Proofs.YtfinnljkcgglfaaDoor
open Go Go.Vs Go.RowKit
set_option maxRecDepth 100000
set_option linter.unusedSimpArgs false
set_option linter.unusedVariables false
attribute [local simp] unV extV wanted strBin vpt vpn vmp nilV_ptr vic vsn

/-! ### word, on whatever slice -/
def N16 (l : List V) : List V := N8 l ++ [.int .u8 (intAt l 8), .int .u8 (intAt l 9), .int .u8 (intAt l 10), .int .u8 (intAt l 11), .int .u8 (intAt l 12), .int .u8 (intAt l 13), .int .u8 (intAt l 14), .int .u8 (intAt l 15)]
def N24 (l : List V) : List V := N16 l ++ [.int .u8 (intAt l 16), .int .u8 (intAt l 17), .int .u8 (intAt l 18), .int .u8 (intAt l 19), .int .u8 (intAt l 20), .int .u8 (intAt l 21), .int .u8 (intAt l 22), .int .u8 (intAt l 23)]
theorem word_of {a : List V} {xs : List V} (h : (match K.evF DX C0 1000 28 [.lst false xs] K.HT.nil with
    | some p => some (isW p.1, i64R p.1, Nat.beq p.2.n 0)
    | none => none) = some (true, wordE a, true)) : PCalls DX 28 [.lst false xs] fun r => r = .ret (.int .u64 (wordE a)) := by
  cases he : K.evF DX C0 1000 28 [.lst false xs] K.HT.nil with
  | none => rw [he] at h; cases h
  | some p =>
    rw [he] at h
    simp only [Option.some.injEq, Prod.mk.injEq] at h
    obtain ⟨h1, h2, h3⟩ := h
    have := K.evF_pure DX.ok DX.low C0.ok (r := p.1) (h := p.2) he (K.nbeq h3)
    refine this.mono fun r h' hr => ⟨?_, hr.2⟩
    rw [hr.1]
    unfold isW at h1
    split at h1
    · rename_i n hp; rw [hp] at h2 ⊢; simp only [i64R] at h2; rw [h2]
    · cases h1
theorem word16 (a : List V) : PCalls DX 28 [.lst false (N16 a)] fun r => r = .ret (.int .u64 (wordE a)) := word_of (by kernel_rfl)
theorem word24 (a : List V) : PCalls DX 28 [.lst false (N24 a)] fun r => r = .ret (.int .u64 (wordE a)) := word_of (by kernel_rfl)
theorem word32 (a : List V) : PCalls DX 28 [.lst false (N32 a)] fun r => r = .ret (.int .u64 (wordE a)) := word_of (by kernel_rfl)
theorem word_any {n : Nat} {a : List V} (hn : n = 8 ∨ n = 16 ∨ n = 24 ∨ n = 32) (h : isK .u8 n a = true) : PCalls DX 28 [.lst false a] fun r => r = .ret (.int .u64 (wordE a)) := by
  rcases hn with rfl | rfl | rfl | rfl
  · exact word_spec h
  · have := word16 a; rwa [show N16 a = a from cellsK_eq (k := .u8) (n := 16) h] at this
  · have := word24 a; rwa [show N24 a = a from cellsK_eq (k := .u8) (n := 24) h] at this
  · have := word32 a; rwa [N32_id h] at this
theorem word_at {h : Hp} {b off n cap : Nat} {ex : Bool} {ys : List V} (hn : n = 8 ∨ n = 16 ∨ n = 24 ∨ n = 32) (hr : rd h (.ptr b off) n = some ys) (hk : isK .u8 n ys = true) :
    ACalls DX 28 [.sl b off n cap ex 1 false] h fun r h' => r = .ret (.int .u64 (wordE ys)) ∧ h' = h := by
  refine ((word_any hn hk).frz DX.low (fun r hr => by subst hr; exact .int _ _) (h := h) (args := [.sl b off n cap ex 1 false]) ⟨?_, trivial⟩)
  have := Fzn.sl (h := h) b off n cap 1 ex false ys (by rw [Nat.mul_one]; exact hr) (fun _ => rfl) (isK_low hk)
  rwa [chunk_one n ys (isK_len hk)] at this

/-! ### slices of arrays -/
def slcaX (h : Hp) (n es : Nat) (ag : Bool) (l u m : Nat) : V → Option Rz
  | .ptr b o => if (rd h (.ptr b o) (n * es)).isSome then some (.val (.sl b (o + l * es) (u - l) (m - l) true es ag) h) else none
  | .fp cs o => (sub cs o (n * es)).map fun c => .val (.lst (u == m) (((chunk es ag n c).take u).drop l)) h
  | _ => none
theorem aop_slcaL {x : X} {t : Nat → V} {h : Hp} (n es : Nat) (ag : Bool) (a : O) (l : Int) (hl : 0 ≤ l ∧ l.toNat ≤ n) : aop x t h (.slca n es ag a (some (.k (.int .i64 l))) none none) = slcaX h n es ag l.toNat n n (a.ev x t) := by
  have e : bnd x t 0 (some (.k (.int .i64 l))) = some l.toNat := by
    show (if (0 : Int) ≤ l then some l.toNat else none) = some l.toNat
    rw [if_pos hl.1]
  have e2 : bnd x t n none = some n := rfl
  simp only [aop, slcaX, e, e2]
  rw [if_pos ⟨hl.2, Nat.le_refl _, Nat.le_refl _⟩]
  generalize a.ev x t = u
  cases u <;> rfl
theorem aop_slcaU {x : X} {t : Nat → V} {h : Hp} (n es : Nat) (ag : Bool) (a : O) (u : Int) (hu : 0 ≤ u ∧ u.toNat ≤ n) : aop x t h (.slca n es ag a none (some (.k (.int .i64 u))) none) = slcaX h n es ag 0 u.toNat n (a.ev x t) := by
  have e : bnd x t n (some (.k (.int .i64 u))) = some u.toNat := by
    show (if (0 : Int) ≤ u then some u.toNat else none) = some u.toNat
    rw [if_pos hu.1]
  have e2 : bnd x t n none = some n := rfl
  have e3 : bnd x t 0 none = some 0 := rfl
  simp only [aop, slcaX, e, e2, e3]
  rw [if_pos ⟨Nat.zero_le _, hu.2, Nat.le_refl _⟩]
  generalize a.ev x t = u
  cases u <;> rfl
theorem slcaX_ok {h : Hp} {n l u m b : Nat} {cs : List V} {ty : Option TypeId} (hg : hget h b = some (.cells cs ty)) (hl : cs.length = n) : slcaX h n 1 false l u m (.ptr b 0) = some (.val (.sl b l (u - l) (m - l) true 1 false) h) := by
  have : rd h (.ptr b 0) (n * 1) = some cs := by rw [Nat.mul_one]; exact rd_allc hg hl
  simp only [slcaX, this]; simp
def B23 : C := (.seq (.reg [⟨some 7, .new [(.int .u8 0), (.int .u8 0), (.int .u8 0), (.int .u8 0), (.int .u8 0), (.int .u8 0), (.int .u8 0), (.int .u8 0), (.int .u8 0), (.int .u8 0), (.int .u8 0), (.int .u8 0), (.int .u8 0), (.int .u8 0), (.int .u8 0), (.int .u8 0), (.int .u8 0), (.int .u8 0), (.int .u8 0), (.int .u8 0), (.int .u8 0), (.int .u8 0), (.int .u8 0), (.int .u8 0)] none, none⟩])
 (.seq (.reg [⟨some 22, .slca 24 1 false (.t 7) none (some (.k (.int .i64 16))) none, none⟩,
 ⟨some 23, .mov (.t 1), none⟩,
 ⟨some 24, .cpy 1 (.t 22) (.t 23), none⟩,
 ⟨some 8, .mov (.t 24), none⟩])
 (.seq (.reg [⟨some 25, .mov (.t 8), none⟩,
 ⟨some 26, .iada 24 1 (.t 7) (.t 25), none⟩,
 ⟨none, .store 1 (.t 26) (.k (.int .u8 1)), none⟩])
 (.seq (.reg [⟨some 27, .mov (.t 1), none⟩,
 ⟨some 28, .mov (.t 8), none⟩,
 ⟨some 29, .slc false 1 (.t 27) (some (.t 28)) none none, none⟩,
 ⟨some 1, .mov (.t 29), none⟩])
 (.dreg [⟨some 30, .load 3 true (.t 6), none⟩,
 ⟨some 31, .slca 24 1 false (.t 7) none none none, none⟩,
 ⟨some 32, .call (.k (.fn (.func 28) [] [])) [(.t 31)], none⟩,
 ⟨some 33, .slca 24 1 false (.t 7) (some (.k (.int .i64 8))) none none, none⟩,
 ⟨some 34, .call (.k (.fn (.func 28) [] [])) [(.t 33)], none⟩,
 ⟨some 35, .slca 24 1 false (.t 7) (some (.k (.int .i64 16))) none none, none⟩,
 ⟨some 36, .call (.k (.fn (.func 28) [] [])) [(.t 35)], none⟩,
 ⟨some 37, .build [(.int .u64 0), (.int .u64 0), (.int .u64 0)] [(0, 1, (.t 32)), (1, 1, (.t 34)), (2, 1, (.t 36))], none⟩,
 ⟨some 38, .call (.k (.fn (.func 29) [] [])) [(.t 30), (.t 37)], none⟩,
 ⟨some 39, .load 2 true (.t 5), none⟩,
 ⟨some 40, .call (.k (.fn (.func 30) [] [])) [(.t 38), (.t 39)], none⟩,
 ⟨none, .store 3 (.t 6) (.t 40), none⟩] (.lin [] [(0, none), (1, none), (3, none), (5, none), (9, none), (2, some [0, 3, 5, 9]), (4, some [0, 5, 9]), (6, some [0, 9]), (7, none), (8, some [9]), (10, some []), (11, some [])]))))))
def C23 : C := (.seq (.reg [⟨some 10, .new [(.int .u8 0), (.int .u8 0), (.int .u8 0), (.int .u8 0), (.int .u8 0), (.int .u8 0), (.int .u8 0), (.int .u8 0), (.int .u8 0), (.int .u8 0), (.int .u8 0), (.int .u8 0), (.int .u8 0), (.int .u8 0), (.int .u8 0), (.int .u8 0)] none, none⟩])
 (.seq (.seq (.reg [⟨some 73, .mov (.k (.int .i64 0)), none⟩])
 (.block 2
 (.loop
 (.seq (.reg [⟨some 74, .bin .lss .num (.t 73) (.k (.int .i64 16)), none⟩])
 (.seq (.cond (.t 74)
 .skip
 (.exit 2))
 (.seq (.block 3
 (.seq (.reg [⟨some 75, .mov (.t 73), none⟩,
 ⟨some 11, .mov (.t 75), none⟩])
 (.reg [⟨some 76, .mov (.t 11), none⟩,
 ⟨some 77, .mov (.t 11), none⟩,
 ⟨some 78, .bin .quo .num (.t 77) (.k (.int .i64 8)), none⟩,
 ⟨some 79, .iada 3 1 (.t 6) (.t 78), none⟩,
 ⟨some 80, .load 1 false (.t 79), none⟩,
 ⟨some 81, .mov (.t 11), none⟩,
 ⟨some 82, .bin .rem .num (.t 81) (.k (.int .i64 8)), none⟩,
 ⟨some 83, .bin .mul .num (.k (.int .i64 8)) (.t 82), none⟩,
 ⟨some 84, .bin .shr .num (.t 80) (.t 83), none⟩,
 ⟨some 85, .cvi .u8 (.t 84), none⟩,
 ⟨some 86, .iada 16 1 (.t 10) (.t 76), none⟩,
 ⟨none, .store 1 (.t 86) (.t 85), none⟩])))
 (.reg [⟨some 87, .bin .add .num (.t 73) (.k (.int .i64 1)), none⟩,
 ⟨some 73, .mov (.t 87), none⟩])))))))
 (.seq (.reg [⟨some 88, .load 16 true (.t 10), none⟩,
 ⟨none, .store 16 (.t 4) (.t 88), none⟩])
 .ret)))
def D23 : C := (.seq (.dreg [⟨some 62, .iada 3 1 (.t 6) (.k (.int .i64 0)), none⟩,
 ⟨some 63, .load 1 false (.t 62), none⟩,
 ⟨some 64, .iada 3 1 (.t 6) (.k (.int .i64 1)), none⟩,
 ⟨some 65, .load 1 false (.t 64), none⟩,
 ⟨some 66, .build [(.int .u64 0), (.int .u64 0), (.int .u64 0)] [(0, 1, (.t 63)), (1, 1, (.t 65))], none⟩,
 ⟨some 67, .slca 32 1 false (.t 2) (some (.k (.int .i64 16))) none none, none⟩,
 ⟨some 68, .call (.k (.fn (.func 28) [] [])) [(.t 67)], none⟩,
 ⟨some 69, .slca 32 1 false (.t 2) (some (.k (.int .i64 24))) none none, none⟩,
 ⟨some 70, .call (.k (.fn (.func 28) [] [])) [(.t 69)], none⟩,
 ⟨some 71, .build [(.int .u64 0), (.int .u64 0), (.int .u64 0)] [(0, 1, (.t 68)), (1, 1, (.t 70))], none⟩,
 ⟨some 72, .call (.k (.fn (.func 29) [] [])) [(.t 66), (.t 71)], none⟩,
 ⟨none, .store 3 (.t 6) (.t 72), none⟩] (.lin [] [(0, none), (1, none), (2, none), (3, none), (4, none), (5, none), (7, none), (6, some [0, 1, 2, 3, 4, 7]), (8, some [0, 1, 2, 3, 4]), (9, none), (10, some []), (11, some [])]))
 C23)
def T23 : C := (.seq (.reg [⟨some 41, .iada 3 1 (.t 6) (.k (.int .i64 0)), none⟩,
 ⟨some 42, .load 1 false (.t 41), none⟩,
 ⟨some 43, .iada 3 1 (.t 6) (.k (.int .i64 1)), none⟩,
 ⟨some 44, .load 1 false (.t 43), none⟩,
 ⟨some 45, .iada 3 1 (.t 6) (.k (.int .i64 2)), none⟩,
 ⟨some 46, .load 1 false (.t 45), none⟩,
 ⟨some 47, .bin .and .num (.t 46) (.k (.int .u64 3)), none⟩,
 ⟨some 48, .build [(.int .u64 0), (.int .u64 0), (.int .u64 0)] [(0, 1, (.t 42)), (1, 1, (.t 44)), (2, 1, (.t 47))], none⟩,
 ⟨some 49, .iada 3 1 (.t 6) (.k (.int .i64 2)), none⟩,
 ⟨some 50, .load 1 false (.t 49), none⟩,
 ⟨some 51, .bin .shr .num (.t 50) (.k (.int .u64 2)), none⟩,
 ⟨some 52, .bin .mul .num (.k (.int .u64 5)) (.t 51), none⟩,
 ⟨some 53, .build [(.int .u64 0), (.int .u64 0), (.int .u64 0)] [(0, 1, (.t 52))], none⟩,
 ⟨some 54, .call (.k (.fn (.func 29) [] [])) [(.t 48), (.t 53)], none⟩,
 ⟨none, .store 3 (.t 6) (.t 54), none⟩])
 (.seq (.reg [⟨some 55, .load 3 true (.t 6), none⟩,
 ⟨some 56, .build [(.int .u64 0), (.int .u64 0), (.int .u64 0)] [(0, 1, (.k (.int .u64 5)))], none⟩,
 ⟨some 57, .call (.k (.fn (.func 29) [] [])) [(.t 55), (.t 56)], none⟩,
 ⟨some 9, .new [(.int .u64 0), (.int .u64 0), (.int .u64 0)] none, none⟩,
 ⟨none, .store 3 (.t 9) (.t 57), none⟩])
 (.seq (.seq (.reg [⟨some 58, .iada 3 1 (.t 9) (.k (.int .i64 2)), none⟩,
 ⟨some 59, .load 1 false (.t 58), none⟩,
 ⟨some 60, .bin .geq .num (.t 59) (.k (.int .u64 4)), none⟩])
 (.cond (.t 60)
 (.reg [⟨some 61, .load 3 true (.t 9), none⟩,
 ⟨none, .store 3 (.t 6) (.t 61), none⟩])
 .skip))
 D23)))
def F23' : Fun :=
 ⟨89, 2, [.c 4 16 true],
 (.seq (.reg [⟨some 2, .box none (.t 0), none⟩,
 ⟨some 4, .new [(.int .u8 0), (.int .u8 0), (.int .u8 0), (.int .u8 0), (.int .u8 0), (.int .u8 0), (.int .u8 0), (.int .u8 0), (.int .u8 0), (.int .u8 0), (.int .u8 0), (.int .u8 0), (.int .u8 0), (.int .u8 0), (.int .u8 0), (.int .u8 0)] none, none⟩])
 (.seq (.dreg [⟨some 12, .slca 32 1 false (.t 2) none none none, none⟩,
 ⟨some 13, .call (.k (.fn (.func 28) [] [])) [(.t 12)], none⟩,
 ⟨some 14, .bin .and .num (.t 13) (.k (.int .u64 1152921487695413247)), none⟩,
 ⟨some 15, .slca 32 1 false (.t 2) (some (.k (.int .i64 8))) none none, none⟩,
 ⟨some 16, .call (.k (.fn (.func 28) [] [])) [(.t 15)], none⟩,
 ⟨some 17, .bin .and .num (.t 16) (.k (.int .u64 1152921487695413244)), none⟩,
 ⟨some 18, .build [(.int .u64 0), (.int .u64 0)] [(0, 1, (.t 14)), (1, 1, (.t 17))], none⟩,
 ⟨some 5, .new [(.int .u64 0), (.int .u64 0)] none, none⟩,
 ⟨none, .store 2 (.t 5) (.t 18), none⟩] (.lin [7] [(0, none), (3, none), (1, some [3]), (2, none), (4, some [2]), (5, none), (6, none), (8, some [])]))
 (.seq (.reg [⟨some 6, .new [(.int .u64 0), (.int .u64 0), (.int .u64 0)] none, none⟩])
 (.seq (.block 0
 (.loop
 (.seq (.seq (.reg [⟨some 19, .mov (.t 1), none⟩,
 ⟨some 20, .len .slc (.t 19), none⟩,
 ⟨some 21, .bin .gtr .num (.t 20) (.k (.int .i64 0)), none⟩])
 (.cond (.t 21)
 .skip
 (.exit 0)))
 (.block 1
 B23))))
 T23))))⟩
def F23 : Fun := F23'
theorem F23_eq : F23 = F23' := rfl
theorem ck23 : ckF Tryd.prog 23 F23 = true := by kernel_rfl


theorem slcaVV_at {h : Hp} {b n : Nat} {c : List V} {ty : Option TypeId} (hg : hget h b = some (.cells c ty)) (hl : c.length = n) : slcaVV h n 1 false (.ptr b 0) = some (.val (.sl b 0 n n true 1 false) h) := by
  simp only [slcaVV, Nat.mul_one]; rw [rd_allc hg hl]; rfl
theorem rd_drop {h : Hp} {b n o : Nat} {c : List V} {ty : Option TypeId} (hg : hget h b = some (.cells c ty)) (hl : c.length = o + n) : rd h (.ptr b o) n = some (c.drop o) := by
  simp only [rd, hg, sub]
  rw [if_pos (by omega), List.take_of_length_le (by simp; omega)]
/-! ### the round -/
def z24 : List V := List.replicate 24 (.int .u8 0)
/-- Sixteen bytes, or what there is, and a one. -/
def partV (xs : List V) : List V := (xs.take 16 ++ z24.drop (min xs.length 16)).set (min xs.length 16) (.int .u8 1)
theorem partV_is {xs : List V} (hB : isB xs) : isK .u8 24 (partV xs) = true := by
  refine isK_mk (by simp [partV, z24]; omega) fun v hv => ?_
  rcases List.mem_or_eq_of_mem_set hv with hv | rfl
  · rcases List.mem_append.1 hv with hv | hv
    · obtain ⟨n, rfl⟩ := hB v (List.mem_of_mem_take hv); exact ⟨n, rfl⟩
    · have := List.eq_of_mem_replicate (List.mem_of_mem_drop hv); subst this; exact ⟨0, rfl⟩
  · exact ⟨1, rfl⟩
/-- The sum, a part more. -/
noncomputable def sumS (r s : Int) (p : Int × Int × Int) (xs : List V) : Int × Int × Int :=
  tim3 (plT p.1 p.2.1 p.2.2 (wordE (partV xs)) (wordE ((partV xs).drop 8)) (wordE ((partV xs).drop 16)) 0) (plT p.1 p.2.1 p.2.2 (wordE (partV xs)) (wordE ((partV xs).drop 8)) (wordE ((partV xs).drop 16)) 1)
    (plT p.1 p.2.1 p.2.2 (wordE (partV xs)) (wordE ((partV xs).drop 8)) (wordE ((partV xs).drop 16)) 2) r s
theorem sumS_r (r s : Int) (p : Int × Int × Int) (xs : List V) : Rg (sumS r s p xs).1 ∧ Rg (sumS r s p xs).2.1 ∧ Rg (sumS r s p xs).2.2 := tim3_r ..
def WP (H : Hp) (p : List V) : Hp := H ++ [some (.cells p none)]
theorem WP_at (H : Hp) (p : List V) : hget (WP H p) H.length = some (.cells p none) := by simp [WP, hget]
theorem WP_set (H : Hp) (p q : List V) : (WP H p).set H.length (some (.cells q none)) = WP H q := by simp [WP]
theorem WP_old {H : Hp} (p : List V) {b : Nat} (hb : b < H.length) : hget (WP H p) b = hget H b := hget_old hb _
theorem sum_body {t : Nat → V} {H : Hp} {xs : List V} {x y z r s : Int} {Q : Ex → St → Prop} (t1 : t 1 = .lst false xs) (hB : isB xs) (h0 : xs ≠ []) (hL : xs.length < 2 ^ 40) (t5 : t 5 = .ptr 2 0) (t6 : t 6 = .ptr 3 0) (hH : 4 ≤ H.length)
    (h2 : hget H 2 = some (.cells [.int .u64 r, .int .u64 s] none)) (h3 : hget H 3 = some (.cells (I3 x y z) none)) (hx : Rg x) (hy : Rg y) (hz : Rg z)
    (hQ : ∀ t' H', t' 1 = .lst false (xs.drop 16) → t' 2 = t 2 → t' 4 = t 4 → t' 5 = t 5 → t' 6 = t 6 → 4 ≤ H'.length → (∀ b, b < 3 → hget H' b = hget H b) →
      hget H' 3 = some (.cells (I3 (sumS r s (x, y, z) xs).1 (sumS r s (x, y, z) xs).2.1 (sumS r s (x, y, z) xs).2.2) none) → Q .normal ⟨t', H', []⟩) : vc DX B23 Q ⟨t, H, []⟩ := by
  have hP := partV_is hB
  have lP := isK_len hP
  have e0 : H ++ [some (.cells [.int .u8 0, .int .u8 0, .int .u8 0, .int .u8 0, .int .u8 0, .int .u8 0, .int .u8 0, .int .u8 0, .int .u8 0, .int .u8 0, .int .u8 0, .int .u8 0, .int .u8 0, .int .u8 0, .int .u8 0, .int .u8 0, .int .u8 0, .int .u8 0, .int .u8 0, .int .u8 0, .int .u8 0, .int .u8 0, .int .u8 0, .int .u8 0] none)] = WP H z24 := rfl
  have s0 : slcaX (WP H z24) 24 1 false 0 16 24 (.ptr H.length 0) = some (.val (.sl H.length 0 16 24 true 1 false) (WP H z24)) := slcaX_ok (WP_at ..) rfl
  obtain ⟨k, hk⟩ : ∃ k, k = min xs.length 16 := ⟨_, rfl⟩
  have hk1 : 1 ≤ k := by have := List.length_pos_iff.2 h0; omega
  obtain ⟨p1, hp1⟩ : ∃ p1, p1 = xs.take 16 ++ z24.drop k := ⟨_, rfl⟩
  have lp1 : p1.length = 24 := by rw [hp1]; simp [z24]; omega
  have ep : p1.set k (.int .u8 1) = partV xs := by rw [hp1, hk]; rfl
  have c0 : cpyV (WP H z24) 1 (.sl H.length 0 16 24 true 1 false) (.lst false xs) = some (.val (.int .i64 (k : Nat)) (WP H p1)) := by
    have h1 : src (WP H z24) 1 (.lst false xs) = some (xs.length, xs) := (sl_lst hB).1
    simp only [cpyV, h1, if_pos, Nat.mul_one]
    have hl : (xs.take (min xs.length 16)).length = k := by simp; omega
    have h2 : wr (WP H z24) H.length 0 (xs.take (min xs.length 16)) = some (WP H p1) := by
      unfold wr
      rw [WP_at]
      simp only
      rw [if_pos (by rw [hl]; simp [z24]; omega), setAll_eq _ _ _ (by rw [hl]; simp [z24]; omega), hl, WP_set, List.take_zero, List.nil_append, Nat.zero_add, hp1]
      congr 3
      rcases Nat.le_total xs.length 16 with h | h
      · rw [Nat.min_eq_left h, List.take_of_length_le (Nat.le_refl _), List.take_of_length_le h]
      · rw [Nat.min_eq_right h]
    rw [h2, hk]; rfl
  have i0 : iadaV 24 1 (.ptr H.length 0) (.int .i64 (k : Int)) = some (.ptr H.length k) := iada1 (by omega)
  have st1 : stV (WP H p1) 1 (.ptr H.length k) (.int .u8 1) = some (.skip (WP H (partV xs))) := by
    rw [st_cell (WP_at H p1) rfl rfl (by omega), WP_set, ep]
  have sl1 : slcV 1 (.lst false xs) k none none = some (.lst false (xs.drop k)) := by
    simp only [slcV, Option.getD_none]
    rw [if_pos ⟨by omega, by simp, isB_len hB⟩]
    simp [upTo]
  have ek : xs.drop k = xs.drop 16 := by
    rcases Nat.le_total xs.length 16 with h | h
    · rw [List.drop_eq_nil_of_le (by omega), List.drop_eq_nil_of_le h]
    · rw [show k = 16 by omega]
  have hkn : (0 : Int) ≤ k := by omega
  simp [B23, e0, aop_slcaU, s0, aop_cpyV, t1, c0, aop_iadaV, i0, st1, sl1, V.isStr]
  have r6 : rd (WP H (partV xs)) (.ptr 3 0) 3 = some (I3 x y z) := rd_allc (by rw [WP_old _ (by omega)]; exact h3) rfl
  have r5 : rd (WP H (partV xs)) (.ptr 2 0) 2 = some [.int .u64 r, .int .u64 s] := rd_allc (by rw [WP_old _ (by omega)]; exact h2) rfl
  have sc0 : slcaVV (WP H (partV xs)) 24 1 false (.ptr H.length 0) = some (.val (.sl H.length 0 24 24 true 1 false) (WP H (partV xs))) := slcaVV_at (WP_at ..) lP
  have sc8 : slcaX (WP H (partV xs)) 24 1 false 8 24 24 (.ptr H.length 0) = some (.val (.sl H.length 8 16 16 true 1 false) (WP H (partV xs))) := slcaX_ok (WP_at ..) lP
  have sc16 : slcaX (WP H (partV xs)) 24 1 false 16 24 24 (.ptr H.length 0) = some (.val (.sl H.length 16 8 8 true 1 false) (WP H (partV xs))) := slcaX_ok (WP_at ..) lP
  have q0 : rd (WP H (partV xs)) (.ptr H.length 0) 24 = some (partV xs) := rd_allc (WP_at ..) lP
  have q8 : rd (WP H (partV xs)) (.ptr H.length 8) 16 = some ((partV xs).drop 8) := rd_drop (WP_at ..) (by omega)
  have q16 : rd (WP H (partV xs)) (.ptr H.length 16) 8 = some ((partV xs).drop 16) := rd_drop (WP_at ..) (by omega)
  have k8 : isK .u8 16 ((partV xs).drop 8) = true := isK_mk (by simp; omega) fun v hv => isK_all hP v (List.mem_of_mem_drop hv)
  have k16 : isK .u8 8 ((partV xs).drop 16) = true := isK_mk (by simp; omega) fun v hv => isK_all hP v (List.mem_of_mem_drop hv)
  refine vD_lin ?_
  simp [reL, vLs, vLg, vLq, dstO, nth_zero, nth_succ, nd, tell, fadV, asV, t5, t6, r5, r6, aop_slcaV, aop_slcaL, sc0, sc8, sc16]
  refine (word_at (by simp) q0 hP).mono ?_
  rintro v h' ⟨rfl, rfl⟩
  simp [t5, t6, r5, r6, asV, aop_slcaL, sc8, sc16]
  refine (word_at (by simp) q8 k8).mono ?_
  rintro v h' ⟨rfl, rfl⟩
  simp [t5, t6, r5, r6, asV, aop_slcaL, sc8, sc16]
  refine (word_at (by simp) q16 k16).mono ?_
  rintro v h' ⟨rfl, rfl⟩
  have hf : ∀ a b c : Int, fillV [.int .u64 0, .int .u64 0, .int .u64 0] [(0, 1, .int .u64 a), (1, 1, .int .u64 b), (2, 1, .int .u64 c)] = some (I3 a b c) := fun a b c => by simp [fillV, setAll, V.cells, V.one, I3]
  simp [t5, t6, r5, r6, asV, hf]
  refine (plus3_at hx hy hz (wordE_r _) (wordE_r _) (wordE_r _) _).mono ?_
  rintro v h' ⟨rfl, rfl⟩
  simp [t5, t6, r5, asV]
  refine (tim3_at _ _ _ _ _ _).mono ?_
  rintro v h' ⟨rfl, rfl⟩
  have g3 : hget (WP H (partV xs)) 3 = some (.cells (I3 x y z) none) := by rw [WP_old _ (by omega)]; exact h3
  have sS : ∀ a b c : Int, stV (WP H (partV xs)) 3 (.ptr 3 0) (.agg (I3 a b c)) = some (.skip ((WP H (partV xs)).set 3 (some (.cells (I3 a b c) none)))) := fun a b c => st_all g3 rfl rfl (by simp [I3, V.one])
  simp [t6, sS]
  have hl4 : 4 ≤ ((WP H (partV xs)).set 3 (some (.cells (I3 (sumS r s (x, y, z) xs).1 (sumS r s (x, y, z) xs).2.1 (sumS r s (x, y, z) xs).2.2) none))).length := by simp [WP]; omega
  refine hQ _ _ ?_ ?_ ?_ ?_ ?_ hl4 (fun b hb => ?_) (hget_set (by simp [WP]; omega) _)
  · simp [ek]
  · simp
  · simp
  · simp
  · simp
  · rw [hget_set_ne (by omega), WP_old _ (by omega)]
end Go.Proofs.YtfinnljkcgglfaaDoor
namespace Go.Proofs.YtfinnljkcgglfaaDoor
open Go Go.Vs Go.RowKit
set_option maxRecDepth 100000
set_option linter.unusedSimpArgs false
set_option linter.unusedVariables false
attribute [local simp] unV extV wanted strBin vpt vpn vmp nilV_ptr vic vsn

def outE (w : Nat → Int) (i : Nat) : Int := IntKind.u8.wrap ((w (i / 8)).fdiv (2 ^ min (8 * (i % 8)) IntKind.u64.bits))
def oW (w : Nat → Int) (i : Nat) : Nat → Int := fun p => if p < i then outE w p else 0
theorem oW_step (w : Nat → Int) (i : Nat) : upd1 (oW w i) i (outE w i) = oW w (i + 1) := by
  funext p; unfold upd1 oW
  by_cases h : p = i
  · subst h; simp
  · rw [if_neg h]
    by_cases h2 : p < i
    · rw [if_pos h2, if_pos (by omega)]
    · rw [if_neg h2, if_neg (by omega)]
def z16 : List V := List.replicate 16 (.int .u8 0)
def iC (H : Hp) (t0 : Nat → V) (w : Nat → Int) (k : Nat) (st : St) : Prop := ∃ i, k + i = 16 ∧ st.d = [] ∧ st.h = WP H (CK .u8 16 (oW w i)) ∧ st.t 4 = .ptr 1 0 ∧ st.t 6 = .ptr 3 0 ∧ st.t 10 = .ptr H.length 0 ∧ st.t 73 = .int .i64 i
theorem sum_end {t : Nat → V} {H : Hp} {w : Nat → Int} {Q : Ex → St → Prop} (t4 : t 4 = .ptr 1 0) (t6 : t 6 = .ptr 3 0) (hH : 4 ≤ H.length) (h1 : hget H 1 = some (.cells z16 none)) (h3 : hget H 3 = some (.cells (CK .u64 3 w) none))
    (hQ : ∀ t' H', t' 4 = .ptr 1 0 → rd H' (.ptr 1 0) 16 = some (CK .u8 16 (oW w 16)) → Q .ret ⟨t', H', []⟩) : vc DX C23 Q ⟨t, H, []⟩ := by
  have e0 : H ++ [some (.cells [.int .u8 0, .int .u8 0, .int .u8 0, .int .u8 0, .int .u8 0, .int .u8 0, .int .u8 0, .int .u8 0, .int .u8 0, .int .u8 0, .int .u8 0, .int .u8 0, .int .u8 0, .int .u8 0, .int .u8 0, .int .u8 0] none)] = WP H (CK .u8 16 (oW w 0)) := rfl
  simp [C23, e0]
  refine vc_loop _ _ _ (iC H t w) 16 ⟨0, by simp, by simp, by simp, by simp [t4], by simp [t6], by simp, by simp⟩ ?_
  clear t4 t6
  rintro k ⟨t, h, d⟩ ⟨i, hk, hd, hh, t4, t6, t10, t73⟩
  simp only at hd hh t4 t6 t10 t73
  subst hd hh
  by_cases hi : i < 16
  · have hi1 : (i : Int) < 16 := by omega
    have hi2 : ¬ (16 : Int) ≤ i := by omega
    have w1 : IntKind.i64.wrap ((i : Int) + 1) = (i : Int) + 1 := by rw [wrap64 (by omega) (by omega)]
    obtain ⟨q, hq⟩ : ∃ q, q = i / 8 := ⟨_, rfl⟩
    obtain ⟨m, hm⟩ : ∃ m, m = i % 8 := ⟨_, rfl⟩
    have hq1 : (i : Int) / 8 = (q : Int) := by subst hq; rfl
    have hm1 : (i : Int).tmod 8 = (m : Int) := by subst hm; rfl
    have wq : IntKind.i64.wrap (q : Int) = (q : Int) := by rw [wrap64 (by omega) (by omega)]
    have wm : IntKind.i64.wrap (8 * (m : Int)) = ((8 * m : Nat) : Int) := by rw [wrap64 (by omega) (by omega)]; omega
    have iq := iada1 (len := 3) (b := 3) (i := q) (by omega)
    have io := iada1 (len := 16) (b := H.length) (i := i) (by omega)
    have r3 : rd (WP H (CK .u8 16 (oW w i))) (.ptr 3 q) 1 = some [.int .u64 (w q)] := by
      rw [rd_cell (by rw [WP_old _ (by omega)]; exact h3)]; exact CK_sub1 (by omega)
    have sO : ∀ y, stV (WP H (CK .u8 16 (oW w i))) 1 (.ptr H.length i) (.int .u8 y) = some (.skip (WP H (CK .u8 16 (upd1 (oW w i) i y)))) := fun y => by
      rw [st_CK1 (WP_at ..) hi, WP_set]
    obtain ⟨e, he⟩ : ∃ e, e = 8 * m := ⟨_, rfl⟩
    rw [← he] at wm
    simp [t73, hi, hi1, hi2, hq1, hm1, wq, wm, t6, t10, aop_iadaV, iq, io, r3, asV, sO, w1, cviV]
    refine ⟨k - 1, by omega, i + 1, by omega, rfl, ?_, by simp [t4], by simp [t6], by simp [t10], by simp⟩
    simp only
    rw [← oW_step]
    subst he hq hm
    rfl
  · have hi16 : i = 16 := by omega
    subst hi16
    have rO : rd (WP H (CK .u8 16 (oW w 16))) (.ptr H.length 0) 16 = some (CK .u8 16 (oW w 16)) := rd_allc (WP_at ..) (CK_len ..)
    have sO : stV (WP H (CK .u8 16 (oW w 16))) 16 (.ptr 1 0) (.agg (CK .u8 16 (oW w 16))) = some (.skip ((WP H (CK .u8 16 (oW w 16))).set 1 (some (.cells (CK .u8 16 (oW w 16)) none)))) := st_all (old := z16) (by rw [WP_old _ (by omega)]; exact h1) rfl (CK_len ..) CK_one
    simp [t73, t10, t4, rO, asV, sO]
    exact hQ _ _ (by simp [t4]) (rd_allc (hget_set (by simp [WP]; omega) _) (CK_len ..))

theorem rg0 : Rg 0 := by unfold Rg; omega
theorem rg5 : Rg 5 := by unfold Rg; omega
/-- What the key's second half adds. -/
theorem sum_D {t : Nat → V} {H : Hp} {kc : List V} {x y z : Int} {Q : Ex → St → Prop} (hk : isK .u8 32 kc = true) (hx : Rg x) (hy : Rg y) (t2 : t 2 = .ptr 0 0) (t4 : t 4 = .ptr 1 0) (t6 : t 6 = .ptr 3 0) (hH : 4 ≤ H.length) (h0 : hget H 0 = some (.cells kc none)) (h1 : hget H 1 = some (.cells z16 none)) (h3 : hget H 3 = some (.cells (I3 x y z) none))
    (hQ : ∀ t' H', t' 4 = .ptr 1 0 → rd H' (.ptr 1 0) 16 = some (CK .u8 16 (oW (plT x y 0 (wordE (kc.drop 16)) (wordE (kc.drop 24)) 0) 16)) → Q .ret ⟨t', H', []⟩) : vc DX D23 Q ⟨t, H, []⟩ := by
  have lk := isK_len hk
  have k16 : isK .u8 16 (kc.drop 16) = true := isK_mk (by simp; omega) fun v hv => isK_all hk v (List.mem_of_mem_drop hv)
  have k24 : isK .u8 8 (kc.drop 24) = true := isK_mk (by simp; omega) fun v hv => isK_all hk v (List.mem_of_mem_drop hv)
  have q16 : rd H (.ptr 0 16) 16 = some (kc.drop 16) := rd_drop h0 (by omega)
  have q24 : rd H (.ptr 0 24) 8 = some (kc.drop 24) := rd_drop h0 (by omega)
  have s16 : slcaX H 32 1 false 16 32 32 (.ptr 0 0) = some (.val (.sl 0 16 16 16 true 1 false) H) := slcaX_ok h0 lk
  have s24 : slcaX H 32 1 false 24 32 32 (.ptr 0 0) = some (.val (.sl 0 24 8 8 true 1 false) H) := slcaX_ok h0 lk
  have i0 : iadaV 3 1 (.ptr 3 0) (.int .i64 0) = some (.ptr 3 0) := rfl
  have i1 : iadaV 3 1 (.ptr 3 0) (.int .i64 1) = some (.ptr 3 1) := rfl
  have r0 : rd H (.ptr 3 0) 1 = some [.int .u64 x] := by rw [rd_cell h3]; rfl
  have r1 : rd H (.ptr 3 1) 1 = some [.int .u64 y] := by rw [rd_cell h3]; rfl
  have hf : ∀ a b : Int, fillV [.int .u64 0, .int .u64 0, .int .u64 0] [(0, 1, .int .u64 a), (1, 1, .int .u64 b)] = some (I3 a b 0) := fun a b => by simp [fillV, setAll, V.cells, V.one, I3]
  simp only [D23]
  simp
  refine vD_lin ?_
  simp [reL, vLs, vLg, vLq, dstO, nth_zero, nth_succ, nd, tell, fadV, asV, t2, t6, aop_iadaV, i0, i1, r0, r1, aop_slcaL, s16, s24, hf]
  refine (word_at (by simp) q16 k16).mono ?_
  rintro v h' ⟨rfl, hh⟩
  rw [hh]; clear hh h'
  simp [t2, t6, asV, aop_iadaV, i0, i1, r0, r1, aop_slcaL, s24, hf]
  refine (word_at (by simp) q24 k24).mono ?_
  rintro v h' ⟨rfl, hh⟩
  rw [hh]; clear hh h'
  simp [t2, t6, asV, aop_iadaV, i0, i1, r0, r1, aop_slcaL, s24, hf]
  refine (plus3_at hx hy rg0 (wordE_r _) (wordE_r _) rg0 _).mono ?_
  rintro v h' ⟨rfl, hh⟩
  rw [hh]; clear hh h'
  have sS : ∀ a b c : Int, stV H 3 (.ptr 3 0) (.agg (I3 a b c)) = some (.skip (H.set 3 (some (.cells (I3 a b c) none)))) := fun a b c => st_all h3 rfl rfl (by simp [I3, V.one])
  simp [t6, sS]
  refine sum_end (by simp [t4]) (by simp [t6]) (by simp; exact hH) (by rw [hget_set_ne (by omega)]; exact h1) (hget_set (by omega) _) hQ
theorem sum_T {kc : List V} {x y z : Int} (hk : isK .u8 32 kc = true) (hx : Rg x) (hy : Rg y) (hz : Rg z) : ∃ w : Nat → Int, ∀ t H Q, t 2 = .ptr 0 0 → t 4 = .ptr 1 0 → t 6 = .ptr 3 0 → 4 ≤ H.length → hget H 0 = some (.cells kc none) → hget H 1 = some (.cells z16 none) → hget H 3 = some (.cells (I3 x y z) none) →
    (∀ t' H', t' 4 = .ptr 1 0 → rd H' (.ptr 1 0) 16 = some (CK .u8 16 (oW w 16)) → Q .ret ⟨t', H', []⟩) → vc DX T23 Q ⟨t, H, []⟩ := by
  obtain ⟨u, hu⟩ : ∃ u, u = anE64 z 3 := ⟨_, rfl⟩
  obtain ⟨f, hf⟩ : ∃ f, f = IntKind.u64.wrap (5 * z.fdiv (2 ^ min 2 IntKind.u64.bits)) := ⟨_, rfl⟩
  have ru : Rg u := by rw [hu]; exact wrap_range _
  have rf : Rg f := by rw [hf]; exact wrap_range _
  obtain ⟨a, ha⟩ : ∃ a, a = plT x y u f 0 0 0 := ⟨_, rfl⟩
  obtain ⟨b, hb⟩ : ∃ b, b = plT x y u f 0 0 1 := ⟨_, rfl⟩
  obtain ⟨c, hc⟩ : ∃ c, c = plT x y u f 0 0 2 := ⟨_, rfl⟩
  have ra : Rg a := by rw [ha]; exact plT_r ..
  have rb : Rg b := by rw [hb]; exact plT_r ..
  have rc : Rg c := by rw [hc]; exact plT_r ..
  obtain ⟨a', ha'⟩ : ∃ a', a' = plT a b c 5 0 0 0 := ⟨_, rfl⟩
  obtain ⟨b', hb'⟩ : ∃ b', b' = plT a b c 5 0 0 1 := ⟨_, rfl⟩
  obtain ⟨c', hc'⟩ : ∃ c', c' = plT a b c 5 0 0 2 := ⟨_, rfl⟩
  have ra' : Rg a' := by rw [ha']; exact plT_r ..
  have rb' : Rg b' := by rw [hb']; exact plT_r ..
  refine ⟨if 4 ≤ c' then plT a' b' 0 (wordE (kc.drop 16)) (wordE (kc.drop 24)) 0 else plT a b 0 (wordE (kc.drop 16)) (wordE (kc.drop 24)) 0, ?_⟩
  intro t H Q t2 t4 t6 hH h0 h1 h3 hQ
  have j0 : ∀ β, iadaV 3 1 (.ptr β 0) (.int .i64 0) = some (.ptr β 0) := fun β => rfl
  have j1 : ∀ β, iadaV 3 1 (.ptr β 0) (.int .i64 1) = some (.ptr β 1) := fun β => rfl
  have j2 : ∀ β, iadaV 3 1 (.ptr β 0) (.int .i64 2) = some (.ptr β 2) := fun β => rfl
  have r0 : rd H (.ptr 3 0) 1 = some [.int .u64 x] := by rw [rd_cell h3]; rfl
  have r1 : rd H (.ptr 3 1) 1 = some [.int .u64 y] := by rw [rd_cell h3]; rfl
  have r2 : rd H (.ptr 3 2) 1 = some [.int .u64 z] := by rw [rd_cell h3]; rfl
  have hf3 : ∀ a b c : Int, fillV [.int .u64 0, .int .u64 0, .int .u64 0] [(0, 1, .int .u64 a), (1, 1, .int .u64 b), (2, 1, .int .u64 c)] = some (I3 a b c) := fun a b c => by simp [fillV, setAll, V.cells, V.one, I3]
  have hf1 : ∀ a : Int, fillV [.int .u64 0, .int .u64 0, .int .u64 0] [(0, 1, .int .u64 a)] = some (I3 a 0 0) := fun a => by simp [fillV, setAll, V.cells, V.one, I3]
  have eu : IntKind.u64.wrap ↑((z % 2 ^ IntKind.u64.bits).toNat &&& 3 % 2 ^ IntKind.u64.bits) = u := by rw [hu]; rfl
  simp [T23, t6, aop_iadaV, j0, j1, j2, r0, r1, r2, asV, hf3, hf1, ← hf, eu]
  refine (plus3_at hx hy ru rf rg0 rg0 _).mono ?_
  rintro v h' ⟨rfl, hh⟩
  rw [hh]; clear hh h'
  rw [← ha, ← hb, ← hc]
  have sS : ∀ a b c : Int, stV H 3 (.ptr 3 0) (.agg (I3 a b c)) = some (.skip (H.set 3 (some (.cells (I3 a b c) none)))) := fun a b c => st_all h3 rfl rfl (by simp [I3, V.one])
  obtain ⟨H1, hH1⟩ : ∃ H1, H1 = H.set 3 (some (.cells (I3 a b c) none)) := ⟨_, rfl⟩
  have l1 : 4 ≤ H1.length := by rw [hH1]; simp; exact hH
  have g3 : hget H1 3 = some (.cells (I3 a b c) none) := by rw [hH1]; exact hget_set (by omega) _
  have g0 : hget H1 0 = some (.cells kc none) := by rw [hH1, hget_set_ne (by omega)]; exact h0
  have g1 : hget H1 1 = some (.cells z16 none) := by rw [hH1, hget_set_ne (by omega)]; exact h1
  have r3 : rd H1 (.ptr 3 0) 3 = some (I3 a b c) := rd_allc g3 rfl
  simp [t6, sS, ← hH1, r3, asV, hf1]
  refine (plus3_at ra rb rc rg5 rg0 rg0 _).mono ?_
  rintro v h' ⟨rfl, hh⟩
  rw [hh]; clear hh h'
  rw [← ha', ← hb', ← hc']
  have e0 : H1 ++ [some (.cells [.int .u64 0, .int .u64 0, .int .u64 0] none)] = WP H1 (I3 0 0 0) := rfl
  have sN : stV (WP H1 (I3 0 0 0)) 3 (.ptr H1.length 0) (.agg (I3 a' b' c')) = some (.skip (WP H1 (I3 a' b' c'))) := by
    rw [st_all (n := 3) (old := I3 0 0 0) (cs := I3 a' b' c') (WP_at ..) rfl rfl (by simp [I3, V.one]), WP_set]
  have rN2 : rd (WP H1 (I3 a' b' c')) (.ptr H1.length 2) 1 = some [.int .u64 c'] := by rw [rd_cell (WP_at ..)]; rfl
  have rN : rd (WP H1 (I3 a' b' c')) (.ptr H1.length 0) 3 = some (I3 a' b' c') := rd_allc (WP_at ..) rfl
  have sM : stV (WP H1 (I3 a' b' c')) 3 (.ptr 3 0) (.agg (I3 a' b' c')) = some (.skip ((WP H1 (I3 a' b' c')).set 3 (some (.cells (I3 a' b' c') none)))) := st_all (old := I3 a b c) (by rw [WP_old _ (by omega)]; exact g3) rfl rfl (by simp [I3, V.one])
  simp [e0, sN, aop_iadaV, j2, rN2, asV]
  by_cases h4 : 4 ≤ c'
  · rw [if_pos h4] at hQ
    simp [h4, rN, asV, t6, sM]
    refine sum_D hk ra' rb' (by simp [t2]) (by simp [t4]) (by simp [t6]) (by simp [WP]; omega) (by rw [hget_set_ne (by omega), WP_old _ (by omega)]; exact g0) (by rw [hget_set_ne (by omega), WP_old _ (by omega)]; exact g1) (hget_set (by simp [WP]; omega) _) hQ
  · rw [if_neg h4] at hQ
    simp [h4]
    refine sum_D hk ra rb (by simp [t2]) (by simp [t4]) (by simp [t6]) (by simp [WP]; omega) (by rw [WP_old _ (by omega)]; exact g0) (by rw [WP_old _ (by omega)]; exact g1) (by rw [WP_old _ (by omega)]; exact g3) hQ
end Go.Proofs.YtfinnljkcgglfaaDoor
namespace Go.Proofs.YtfinnljkcgglfaaDoor
open Go Go.Vs Go.RowKit
set_option maxRecDepth 100000
set_option linter.unusedSimpArgs false
set_option linter.unusedVariables false
attribute [local simp] unV extV wanted strBin vpt vpn vmp nilV_ptr vic vsn

noncomputable def sumN (r s : Int) (bs : List V) : Nat → Int × Int × Int
  | 0 => (0, 0, 0)
  | j + 1 => sumS r s (sumN r s bs j) (bs.drop (16 * j))
theorem sumN_r (r s : Int) (bs : List V) : ∀ j, Rg (sumN r s bs j).1 ∧ Rg (sumN r s bs j).2.1 ∧ Rg (sumN r s bs j).2.2
  | 0 => ⟨rg0, rg0, rg0⟩
  | j + 1 => sumS_r ..
def iS (kc bs : List V) (r s : Int) (k : Nat) (st : St) : Prop := ∃ j, k + j = (bs.length + 15) / 16 ∧ st.d = [] ∧ st.t 1 = .lst false (bs.drop (16 * j)) ∧ st.t 2 = .ptr 0 0 ∧ st.t 4 = .ptr 1 0 ∧ st.t 5 = .ptr 2 0 ∧ st.t 6 = .ptr 3 0 ∧ 4 ≤ st.h.length ∧ hget st.h 0 = some (.cells kc none) ∧ hget st.h 1 = some (.cells z16 none) ∧ hget st.h 2 = some (.cells [.int .u64 r, .int .u64 s] none) ∧ hget st.h 3 = some (.cells (I3 (sumN r s bs j).1 (sumN r s bs j).2.1 (sumN r s bs j).2.2) none)
theorem CK_oW (w : Nat → Int) : ∀ v ∈ CK .u8 16 (oW w 16), ∃ m : Nat, m < 256 ∧ v = .int .u8 m := fun v hv => by
  unfold CK at hv
  obtain ⟨i, hi, rfl⟩ := List.mem_map.1 hv
  have hi : i < 16 := by simpa using hi
  obtain ⟨n, hn⟩ : ∃ n, n = oW w 16 i := ⟨_, rfl⟩
  have : 0 ≤ n ∧ n < 256 := by
    unfold oW at hn; rw [if_pos hi] at hn
    unfold outE IntKind.wrap at hn
    simp [IntKind.signed, IntKind.bits] at hn
    omega
  exact ⟨n.toNat, by omega, by rw [← hn]; congr 1; omega⟩
theorem tagSum_ex {kc bs : List V} (hk : isK .u8 32 kc = true) (hB : isB bs) (hL : bs.length < 2 ^ 40) : ∃ c, (isK .u8 16 c = true ∧ ∀ v ∈ c, ∃ m : Nat, m < 256 ∧ v = .int .u8 m) ∧ PCalls DX 23 [.agg kc, .lst false bs] fun r => r = .ret (.agg c) := by
  obtain ⟨r, hr⟩ : ∃ r, r = anE64 (wordE kc) 1152921487695413247 := ⟨_, rfl⟩
  obtain ⟨s, hs⟩ : ∃ s, s = anE64 (wordE (kc.drop 8)) 1152921487695413244 := ⟨_, rfl⟩
  obtain ⟨m, hm⟩ : ∃ m, m = (bs.length + 15) / 16 := ⟨_, rfl⟩
  have hN := sumN_r r s bs m
  obtain ⟨w, hw⟩ := sum_T hk hN.1 hN.2.1 hN.2.2
  refine ⟨CK .u8 16 (oW w 16), ⟨CK_is .., CK_oW w⟩, PCalls.of ?_ fun r hr => by subst hr; exact .agg _ (isK_low (CK_is ..))⟩
  refine acall DX.ok ck23 rfl ?_
  have o1 : (∀ c ∈ kc, c.one = true) = True := eq_true (one_of hk)
  have lk := isK_len hk
  have e0 : ([some (.cells kc none), some (.cells [.int .u8 0, .int .u8 0, .int .u8 0, .int .u8 0, .int .u8 0, .int .u8 0, .int .u8 0, .int .u8 0, .int .u8 0, .int .u8 0, .int .u8 0, .int .u8 0, .int .u8 0, .int .u8 0, .int .u8 0, .int .u8 0] none)] : Hp) = [some (.cells kc none), some (.cells z16 none)] := rfl
  simp only [F23_eq, F23']
  simp [V.cells, o1, e0]
  have k0 : hget [some (.cells kc none), some (.cells z16 none)] 0 = some (.cells kc none) := rfl
  have q0 : rd [some (.cells kc none), some (.cells z16 none)] (.ptr 0 0) 32 = some kc := rd_allc k0 lk
  have q8 : rd [some (.cells kc none), some (.cells z16 none)] (.ptr 0 8) 24 = some (kc.drop 8) := rd_drop k0 (by omega)
  have k8 : isK .u8 24 (kc.drop 8) = true := isK_mk (by simp; omega) fun v hv => isK_all hk v (List.mem_of_mem_drop hv)
  have sc0 : slcaVV [some (.cells kc none), some (.cells z16 none)] 32 1 false (.ptr 0 0) = some (.val (.sl 0 0 32 32 true 1 false) [some (.cells kc none), some (.cells z16 none)]) := slcaVV_at k0 lk
  have sc8 : slcaX [some (.cells kc none), some (.cells z16 none)] 32 1 false 8 32 32 (.ptr 0 0) = some (.val (.sl 0 8 24 24 true 1 false) [some (.cells kc none), some (.cells z16 none)]) := slcaX_ok k0 lk
  refine vD_lin ?_
  simp [reL, vLs, vLg, vLq, dstO, nth_zero, nth_succ, nd, tell, dstOf, A.looks, I.uses, O.use, usesO, List.filter_cons, List.filter_nil, fadV, asV, aop_slcaV, aop_slcaL, sc0, sc8]
  refine (word_at (by simp) q0 hk).mono ?_
  rintro v h' ⟨rfl, hh⟩
  rw [hh]; clear hh h'
  simp [aop_slcaL, sc8, tell, asV]
  refine (word_at (by simp) q8 k8).mono ?_
  rintro v h' ⟨rfl, hh⟩
  rw [hh]; clear hh h'
  have hf2 : ∀ a b : Int, fillV [.int .u64 0, .int .u64 0] [(0, 1, .int .u64 a), (1, 1, .int .u64 b)] = some [.int .u64 a, .int .u64 b] := fun a b => by simp [fillV, setAll, V.cells, V.one]
  have er : IntKind.u64.wrap ↑((wordE kc % 2 ^ IntKind.u64.bits).toNat &&& ((1152921487695413247 : Int) % 2 ^ IntKind.u64.bits).toNat) = r := by rw [hr]; rfl
  have es : IntKind.u64.wrap ↑((wordE (kc.drop 8) % 2 ^ IntKind.u64.bits).toNat &&& ((1152921487695413244 : Int) % 2 ^ IntKind.u64.bits).toNat) = s := by rw [hs]; rfl
  have sS : stV [some (.cells kc none), some (.cells z16 none), some (.cells [.int .u64 0, .int .u64 0] none)] 2 (.ptr 2 0) (.agg [.int .u64 r, .int .u64 s]) = some (.skip [some (.cells kc none), some (.cells z16 none), some (.cells [.int .u64 r, .int .u64 s] none)]) := st_all (n := 2) (old := [.int .u64 0, .int .u64 0]) (cs := [.int .u64 r, .int .u64 s]) (ty := none) rfl rfl rfl (by simp [V.one])
  simp [er, es, hf2, asV, tell1, sS]
  refine vc_loop _ _ _ (iS kc bs r s) ((bs.length + 15) / 16) ⟨0, by simp, by simp, by simp, by simp, by simp, by simp, by simp, by simp, by simp [hget], by simp [hget], by simp [hget], by simp [hget, sumN, I3]⟩ ?_
  rintro k ⟨t, h, d⟩ ⟨j, hk2, hd, t1, t2, t4, t5, t6, hl, g0, g1, g2, g3⟩
  simp only at hd t1 t2 t4 t5 t6 hl g0 g1 g2 g3
  subst hd
  obtain ⟨q, hq⟩ : ∃ q, q = bs.length - 16 * j := ⟨_, rfl⟩
  have lenQ : lenV h .slc (.lst false (bs.drop (16 * j))) = some (.int .i64 (q : Int)) := by
    have := (sl_lst (h := h) (ex := false) (bs := bs.drop (16 * j)) fun y hy => hB y (List.mem_of_mem_drop hy)).len
    rw [this, List.length_drop, ← hq]
  by_cases h0 : 0 < q
  · have h1 : (0 : Int) < (q : Int) := by omega
    have hj := sumN_r r s bs j
    have hne : bs.drop (16 * j) ≠ [] := fun e => by have := congrArg List.length e; simp at this; omega
    simp [t1, lenQ, h0, h1]
    refine sum_body (xs := bs.drop (16 * j)) (by simp [t1]) (fun y hy => hB y (List.mem_of_mem_drop hy)) hne (by simp; omega) (by simp [t5]) (by simp [t6]) hl g2 g3 hj.1 hj.2.1 hj.2.2 fun t' H' e1 e2 e4 e5 e6 hl' hold g3' => ?_
    refine ⟨k - 1, by omega, j + 1, by omega, rfl, ?_, ?_, ?_, ?_, ?_, hl', ?_, ?_, ?_, ?_⟩
    · simp only [e1, List.drop_drop]; congr 2
    · simp only [e2]; simp [t2]
    · simp only [e4]; simp [t4]
    · simp only [e5]; simp [t5]
    · simp only [e6]; simp [t6]
    · simp only; rw [hold 0 (by omega)]; exact g0
    · simp only; rw [hold 1 (by omega)]; exact g1
    · simp only; rw [hold 2 (by omega)]; exact g2
    · exact g3'
  · have h1 : ¬ (0 : Int) < (q : Int) := by omega
    have hj : j = m := by omega
    subst hj
    simp [t1, lenQ, h0, h1]
    refine hw _ _ _ (by simp [t2]) (by simp [t4]) (by simp [t6]) hl g0 g1 g3 fun t' H' e4 hr => ?_
    refine ⟨rfl, _, resV_c1 (cs := CK .u8 16 (oW w 16)) ?_, rfl⟩
    show rd H' (t' 4) 16 = _
    rw [e4]; exact hr
end Go.Proofs.YtfinnljkcgglfaaDoor
