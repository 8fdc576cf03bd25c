/- sha.Sum, mac's functions: one answer each. -/
import Derived.Test.YtfinnljkcgglfaaDoorZjS0J
import Derived.Test.YtfinnljkcgglfaaDoorZjS2
import Derived.Test.YtfinnljkcgglfaaDoorZjS3
import Derived.Test.YtfinnljkcgglfaaDoorZjS4
import Derived.Test.YtfinnljkcgglfaaDoorZv6
set_option linter.unusedSimpArgs false
set_option linter.unusedVariables false
namespace Go.Proofs.YtfinnljkcgglfaaDoor
open Go Go.Vs Go.RowKit
set_option maxRecDepth 100000
set_option linter.unusedSimpArgs false
set_option linter.unusedVariables false
attribute [local simp] unV extV wanted strBin vpt vpn vmp nilV_ptr vic vsn

theorem shaWrite {h : Hp} {rv bV : V} {lr lb : Nat} {rest bs : List V} {s : Nat → Int} {n : Int} (hr : Sl h 1 rv lr rest) (hb : Sl h 1 bV lb bs) (hl : lr + lb < 2 ^ 30) (hB : isB (rest ++ bs)) :
    ACalls DX 19 [.agg (DC s rv n), bV] h fun r h' => r = .ret (.agg (DC (wrS s (rest ++ bs)) (wv (rest ++ bs) ((rest ++ bs).length / 64)) (IntKind.u64.wrap (n + lb)))) ∧ h' = h := by
  refine ACalls.lows (by kernel_rfl) fun h1 h2 => shaWrite_spec h1 hr ?_ hb hl hB
  have := h2 (.agg (DC s rv n)) (by simp)
  cases this with
  | agg _ h3 => exact h3 rv (List.mem_of_getElem? (DC_8 s rv n))

def okRest : V → Bool
  | .nsl => true
  | .lst false ys => match Nat.ble (Nat.succ ys.length) 64 with
    | true => allK .u8 ys
    | false => false
  | _ => false
theorem sum_ex {s : Nat → Int} {rv : V} {n : Int} (h : okRest rv = true) : ∃ r, okA .u8 32 r = true ∧ PCalls DX 20 [.agg (DC s rv n)] fun b => b = r := by
  have e8 : ∀ rv, DC s rv n = S8 (CK .u32 8 s) ++ [rv, .int .u64 n] := fun rv => by
    rw [show S8 (CK .u32 8 s) = CK .u32 8 s from cellsK_eq (k := .u32) (n := 8) (CK_is ..)]; rfl
  unfold okRest at h
  split at h
  · rw [e8]; exact sum_nil ..
  · rename_i ys
    split at h
    · rename_i hl
      have hl : ys.length < 64 := Nat.ble_eq.mp hl
      have hk : isK .u8 ys.length ys = true := isK_mk rfl (allK_spec h)
      rw [e8]
      have key : ∀ r, r < 64 → ∀ l : List V, ∃ a, okA .u8 32 a = true ∧ PCalls DX 20 [.agg (S8 (CK .u32 8 s) ++ [.lst false (cellsK .u8 r l), .int .u64 n])] fun b => b = a := by
        intro r hr l
        match r, hr with
        | 0, _ => exact sum_0 (CK .u32 8 s) l n
        | 1, _ => exact sum_1 (CK .u32 8 s) l n
        | 2, _ => exact sum_2 (CK .u32 8 s) l n
        | 3, _ => exact sum_3 (CK .u32 8 s) l n
        | 4, _ => exact sum_4 (CK .u32 8 s) l n
        | 5, _ => exact sum_5 (CK .u32 8 s) l n
        | 6, _ => exact sum_6 (CK .u32 8 s) l n
        | 7, _ => exact sum_7 (CK .u32 8 s) l n
        | 8, _ => exact sum_8 (CK .u32 8 s) l n
        | 9, _ => exact sum_9 (CK .u32 8 s) l n
        | 10, _ => exact sum_10 (CK .u32 8 s) l n
        | 11, _ => exact sum_11 (CK .u32 8 s) l n
        | 12, _ => exact sum_12 (CK .u32 8 s) l n
        | 13, _ => exact sum_13 (CK .u32 8 s) l n
        | 14, _ => exact sum_14 (CK .u32 8 s) l n
        | 15, _ => exact sum_15 (CK .u32 8 s) l n
        | 16, _ => exact sum_16 (CK .u32 8 s) l n
        | 17, _ => exact sum_17 (CK .u32 8 s) l n
        | 18, _ => exact sum_18 (CK .u32 8 s) l n
        | 19, _ => exact sum_19 (CK .u32 8 s) l n
        | 20, _ => exact sum_20 (CK .u32 8 s) l n
        | 21, _ => exact sum_21 (CK .u32 8 s) l n
        | 22, _ => exact sum_22 (CK .u32 8 s) l n
        | 23, _ => exact sum_23 (CK .u32 8 s) l n
        | 24, _ => exact sum_24 (CK .u32 8 s) l n
        | 25, _ => exact sum_25 (CK .u32 8 s) l n
        | 26, _ => exact sum_26 (CK .u32 8 s) l n
        | 27, _ => exact sum_27 (CK .u32 8 s) l n
        | 28, _ => exact sum_28 (CK .u32 8 s) l n
        | 29, _ => exact sum_29 (CK .u32 8 s) l n
        | 30, _ => exact sum_30 (CK .u32 8 s) l n
        | 31, _ => exact sum_31 (CK .u32 8 s) l n
        | 32, _ => exact sum_32 (CK .u32 8 s) l n
        | 33, _ => exact sum_33 (CK .u32 8 s) l n
        | 34, _ => exact sum_34 (CK .u32 8 s) l n
        | 35, _ => exact sum_35 (CK .u32 8 s) l n
        | 36, _ => exact sum_36 (CK .u32 8 s) l n
        | 37, _ => exact sum_37 (CK .u32 8 s) l n
        | 38, _ => exact sum_38 (CK .u32 8 s) l n
        | 39, _ => exact sum_39 (CK .u32 8 s) l n
        | 40, _ => exact sum_40 (CK .u32 8 s) l n
        | 41, _ => exact sum_41 (CK .u32 8 s) l n
        | 42, _ => exact sum_42 (CK .u32 8 s) l n
        | 43, _ => exact sum_43 (CK .u32 8 s) l n
        | 44, _ => exact sum_44 (CK .u32 8 s) l n
        | 45, _ => exact sum_45 (CK .u32 8 s) l n
        | 46, _ => exact sum_46 (CK .u32 8 s) l n
        | 47, _ => exact sum_47 (CK .u32 8 s) l n
        | 48, _ => exact sum_48 (CK .u32 8 s) l n
        | 49, _ => exact sum_49 (CK .u32 8 s) l n
        | 50, _ => exact sum_50 (CK .u32 8 s) l n
        | 51, _ => exact sum_51 (CK .u32 8 s) l n
        | 52, _ => exact sum_52 (CK .u32 8 s) l n
        | 53, _ => exact sum_53 (CK .u32 8 s) l n
        | 54, _ => exact sum_54 (CK .u32 8 s) l n
        | 55, _ => exact sum_55 (CK .u32 8 s) l n
        | 56, _ => exact sum_56 (CK .u32 8 s) l n
        | 57, _ => exact sum_57 (CK .u32 8 s) l n
        | 58, _ => exact sum_58 (CK .u32 8 s) l n
        | 59, _ => exact sum_59 (CK .u32 8 s) l n
        | 60, _ => exact sum_60 (CK .u32 8 s) l n
        | 61, _ => exact sum_61 (CK .u32 8 s) l n
        | 62, _ => exact sum_62 (CK .u32 8 s) l n
        | 63, _ => exact sum_63 (CK .u32 8 s) l n
        | r + 64, hr => omega
      have := key ys.length hl ys
      rw [cellsK_eq hk] at this
      exact this
    · cases h
  · cases h
noncomputable section
def sumF (s : Nat → Int) (rv : V) (n : Int) : List V := if h : okRest rv = true then aggOf (Classical.choose (sum_ex (s := s) (n := n) h)) else []
theorem sumF_spec {s : Nat → Int} {rv : V} {n : Int} (h : okRest rv = true) : isK .u8 32 (sumF s rv n) = true ∧ PCalls DX 20 [.agg (DC s rv n)] fun b => b = .ret (.agg (sumF s rv n)) := by
  unfold sumF; rw [dif_pos h]; exact pc_of (sum_ex h)
theorem wv_rest {all : List V} (hB : isB all) : okRest (wv all (all.length / 64)) = true := by
  unfold wv
  split
  · rfl
  · have h1 : (all.drop (64 * (all.length / 64))).length < 64 := by simp; omega
    have h2 : isK .u8 (all.drop (64 * (all.length / 64))).length (all.drop (64 * (all.length / 64))) = true := isK_mk rfl fun v hv => hB v (List.mem_of_mem_drop hv)
    simp only [okRest]
    rw [show Nat.ble (Nat.succ (all.drop (64 * (all.length / 64))).length) 64 = true from Nat.ble_eq.mpr h1]
    unfold isK at h2
    rw [Nat.beq_refl] at h2
    exact h2
/-- The digest of bytes. -/
def shaF (bs : List V) : List V := sumF (wrS (fun _ => 0) bs) (wv bs (bs.length / 64)) (IntKind.u64.wrap bs.length)
theorem Z10_DC : [V.int .u32 0, .int .u32 0, .int .u32 0, .int .u32 0, .int .u32 0, .int .u32 0, .int .u32 0, .int .u32 0, .nsl, .int .u64 0] = DC (fun _ => 0) .nsl 0 := rfl
theorem sl_lst {h : Hp} {ex : Bool} {bs : List V} (hB : isB bs) : Sl h 1 (.lst ex bs) bs.length bs := by
  have hc : ∀ x ∈ bs, x.cells.length = 1 := isB_len hB
  have hf : flat bs = bs := by
    clear hc
    induction bs with
    | nil => rfl
    | cons a r ih =>
      obtain ⟨n, rfl⟩ := hB a (List.mem_cons_self ..)
      have := ih fun y hy => hB y (List.mem_cons_of_mem _ hy)
      unfold flat at this ⊢
      rw [List.flatMap_cons, this]; rfl
  refine ⟨?_, rfl, trivial⟩
  simp only [src]
  rw [if_pos hc, hf]
theorem lowB {bs : List V} (hB : isB bs) (ex : Bool) : Low 0 (.lst ex bs) := by
  refine .lst _ _ fun c hc => ?_
  unfold flat at hc
  obtain ⟨y, hy, hc⟩ := List.mem_flatMap.1 hc
  obtain ⟨z, rfl⟩ := hB y hy
  simp [V.cells] at hc; subst hc; exact .int _ _
theorem shaSum {ex : Bool} {bs : List V} (hB : isB bs) (hl : bs.length < 2 ^ 30) : isK .u8 32 (shaF bs) = true ∧ PCalls DX 14 [.lst ex bs] fun r => r = .ret (.agg (shaF bs)) := by
  have hS := sumF_spec (s := wrS (fun _ => 0) bs) (n := IntKind.u64.wrap (bs.length : Int)) (wv_rest hB)
  refine ⟨hS.1, ?_⟩
  refine PCalls.of (acall DX.ok ck14 rfl ?_) fun r hr => by subst hr; exact .agg _ (isK_low hS.1)
  simp [F14, fillV]
  rw [Z10_DC]
  refine (shaWrite (s := fun _ => 0) (n := 0) (rv := .nsl) (bV := .lst ex bs) (rest := []) (bs := bs) (lr := 0) (lb := bs.length) ⟨rfl, rfl, trivial⟩ (sl_lst hB) (by omega) hB).mono ?_
  rintro r h' ⟨rfl, rfl⟩
  simp only [List.nil_append]
  simp
  refine (PCalls.at DX.low hS.2 (fun v hv => by simp at hv; subst hv; exact .agg _ (DC_low (wv_low hB _))) _).mono ?_
  rintro r h' ⟨rfl, rfl⟩
  have hk : isK .u8 32 (shaF bs) = true := hS.1
  have ho : ∀ c ∈ shaF bs, c.one = true := fun c hc => by obtain ⟨n, rfl⟩ := isK_all hk c hc; rfl
  have hs : ∀ (Z : List V), Z.length = 32 → stV [some (.cells Z none)] 32 (.ptr 0 0) (.agg (shaF bs)) = some (.skip [some (.cells (shaF bs) none)]) := fun Z hZ => by
    rw [st_all (n := 32) (old := Z) rfl hZ (isK_len hk) ho]; rfl
  show vops DX _ _ _
  simp [shaF] at hs
  simp [hs]
  exact resV_c1 (rd_allc rfl (isK_len hk))

/-! ### keyed -/
def okD : Res → Bool
  | .ret (.agg [a, b, c, d, e, f, g, k, .lst false [], .int .u64 _]) => isK .u32 8 [a, b, c, d, e, f, g, k]
  | _ => false
def pieces (H : K.HT) : V → Option (List V)
  | .nsl => some []
  | .lst _ ys => some ys
  | .sl b off n cap ex es ag => match Nat.beq es 1 && Nat.ble n cap with
    | true => K.rdE H.g (.ptr b off) (Nat.mul n es)
    | false => none
  | _ => none
def wrK (H : K.HT) (rv bV : V) (s : List V) (n : Int) : Option V := match isK .u32 8 s with
  | true => match pieces H rv with
    | some rest => match pieces H bV with
      | some bs => match allK .u8 (rest ++ bs) with
        | true => match Nat.ble (rest ++ bs).length 1000 with
          | true => some (.agg (S8 (CK .u32 8 (wrS (intAt s) (rest ++ bs))) ++ [wv (rest ++ bs) (Nat.div (rest ++ bs).length 64), .int .u64 (IntKind.u64.wrap (n + bs.length))]))
          | false => none
        | false => none
      | none => none
    | none => none
  | false => none
theorem pieces_sl {H : K.HT} {v : V} {ys : List V} (h : pieces H v = some ys) (hB : isB ys) : Sl H.l 1 v ys.length ys := by
  unfold pieces at h
  split at h
  · cases h; exact ⟨rfl, rfl, trivial⟩
  · cases h; exact sl_lst hB
  · rename_i b off n cap ex es ag
    split at h
    · rename_i he
      simp only [Bool.and_eq_true] at he
      have := Nat.eq_of_beq_eq_true he.1
      subst this
      have hr : rd H.l (.ptr b off) (n * 1) = some ys := by rw [K.rdE_eq, K.HT.g_eq]; exact h
      have hlen : ys.length = n := by
        simp only [rd] at hr
        split at hr
        · have := (sub_spec hr).2.1; omega
        · cases hr
      refine ⟨?_, rfl, Nat.ble_eq.mp he.2⟩
      simp only [src]
      rw [if_pos trivial, hr, hlen]; rfl
    · cases h
  · cases h
def wrQ (f : FuncId) (args : List V) (H : K.HT) : Option (Res × K.HT) := match Nat.beq f 19 with
  | true => match args with
    | [.agg [a, b, c, d, e, f, g, k, rv, .int .u64 n], bV] => match wrK H rv bV [a, b, c, d, e, f, g, k] n with
      | some v => some (.ret v, H)
      | none => none
    | _ => none
  | false => none
theorem wrQ_ok : ∀ g args h r h', wrQ g args h = some (r, h') → ACalls DX g args h.l fun a b => a = r ∧ b = h'.l := by
  intro g args H r h' he
  unfold wrQ at he
  split at he
  · rename_i hb
    have := Nat.eq_of_beq_eq_true hb
    subst this
    split at he
    · rename_i a b c d e f g k rv n bV
      split at he
      · rename_i v hv
        simp only [Option.some.injEq, Prod.mk.injEq] at he
        obtain ⟨rfl, rfl⟩ := he
        unfold wrK at hv
        repeat' split at hv
        all_goals first | (cases hv; done) | skip
        rename_i _ h1 _ rest h2 _ bs h3 _ h4 _ h5
        cases hv
        have hB : isB (rest ++ bs) := allK_spec h4
        have hl : (rest ++ bs).length ≤ 1000 := Nat.ble_eq.mp h5
        rw [List.length_append] at hl
        have r1 := pieces_sl h2 fun y hy => hB y (List.mem_append_left _ hy)
        have r2 := pieces_sl h3 fun y hy => hB y (List.mem_append_right _ hy)
        have := shaWrite (s := intAt [a, b, c, d, e, f, g, k]) (n := n) r1 r2 (by omega) hB
        have e1 : DC (intAt [a, b, c, d, e, f, g, k]) rv n = [a, b, c, d, e, f, g, k, rv, .int .u64 n] := by
          unfold DC
          rw [show CK .u32 8 (intAt [a, b, c, d, e, f, g, k]) = [a, b, c, d, e, f, g, k] from cellsK_eq h1]; rfl
        rw [e1] at this
        have e2 : S8 (CK .u32 8 (wrS (intAt [a, b, c, d, e, f, g, k]) (rest ++ bs))) = CK .u32 8 (wrS (intAt [a, b, c, d, e, f, g, k]) (rest ++ bs)) := cellsK_eq (k := .u32) (n := 8) (CK_is ..)
        rw [e2]
        exact this
      · cases he
    · cases he
  · cases he
def smP (f : FuncId) (args : List V) : Option V := match Nat.beq f 20 with
  | true => match args with
    | [.agg [a, b, c, d, e, f, g, k, rv, .int .u64 n]] => match isK .u32 8 [a, b, c, d, e, f, g, k] with
      | true => match okRest rv with
        | true => some (.agg (N32 (sumF (intAt [a, b, c, d, e, f, g, k]) rv n)))
        | false => none
      | false => none
    | _ => none
  | false => none
theorem smP_ok : ∀ g args v, smP g args = some v → PCalls DX g args fun r => r = .ret v := by
  intro g args v h
  unfold smP at h
  split at h
  · rename_i hb
    have := Nat.eq_of_beq_eq_true hb
    subst this
    split at h
    · rename_i a b c d e f g k rv n
      split at h
      · rename_i h1
        split at h
        · rename_i h2
          cases h
          have hS := sumF_spec (s := intAt [a, b, c, d, e, f, g, k]) (n := n) h2
          have e1 : DC (intAt [a, b, c, d, e, f, g, k]) rv n = [a, b, c, d, e, f, g, k, rv, .int .u64 n] := by
            unfold DC
            rw [show CK .u32 8 (intAt [a, b, c, d, e, f, g, k]) = [a, b, c, d, e, f, g, k] from cellsK_eq h1]; rfl
          rw [e1] at hS
          rw [N32_id hS.1]
          exact hS.2
        · cases h
      · cases h
    · cases h
  · cases h
def CK1 : K.Tb := DX.T smP wrQ
theorem CK1.ok : K.TbOk DX CK1 := DX.tok smP wrQ smP_ok wrQ_ok
theorem key36 (k : List V) : ∃ r, okD r = true ∧ PCalls DX 95 [.lst false (N32 k), .int .u8 54] fun b => b = r := ex_of DX.ok DX.low CK1.ok (n := 3000) (by kernel_rfl)
theorem key5c (k : List V) : ∃ r, okD r = true ∧ PCalls DX 95 [.lst false (N32 k), .int .u8 92] fun b => b = r := ex_of DX.ok DX.low CK1.ok (n := 3000) (by kernel_rfl)
end
end Go.Proofs.YtfinnljkcgglfaaDoor
namespace Go.Proofs.YtfinnljkcgglfaaDoor
open Go Go.Vs Go.RowKit
set_option maxRecDepth 100000
set_option linter.unusedSimpArgs false
set_option linter.unusedVariables false
attribute [local simp] unV extV wanted strBin vpt vpn vmp nilV_ptr vic vsn

theorem okD_spec {r : Res} (h : okD r = true) : ∃ (s : Nat → Int) (m : Int), r = .ret (.agg (DC s (.lst false []) m)) := by
  unfold okD at h
  split at h
  · rename_i a b c d e f g k n
    refine ⟨intAt [a, b, c, d, e, f, g, k], n, ?_⟩
    unfold DC
    rw [show CK .u32 8 (intAt [a, b, c, d, e, f, g, k]) = [a, b, c, d, e, f, g, k] from cellsK_eq h]
    rfl
  · cases h
theorem key_of {by_ : Int} (E : ∀ k : List V, ∃ r, okD r = true ∧ PCalls DX 95 [.lst false (N32 k), .int .u8 by_] fun b => b = r) (k : List V) : ∃ p : (Nat → Int) × Int, isK .u8 32 k = true → PCalls DX 95 [.lst false k, .int .u8 by_] fun b => b = .ret (.agg (DC p.1 (.lst false []) p.2)) := by
  obtain ⟨r, h1, h2⟩ := E k
  obtain ⟨s, m, rfl⟩ := okD_spec h1
  refine ⟨(s, m), fun hk => ?_⟩
  rw [N32_id hk] at h2
  exact h2
noncomputable section
def k36 (k : List V) : (Nat → Int) × Int := Classical.choose (key_of key36 k)
def k5c (k : List V) : (Nat → Int) × Int := Classical.choose (key_of key5c k)
theorem k36_spec {k : List V} (hk : isK .u8 32 k = true) : PCalls DX 95 [.lst false k, .int .u8 54] fun b => b = .ret (.agg (DC (k36 k).1 (.lst false []) (k36 k).2)) := Classical.choose_spec (key_of key36 k) hk
theorem k5c_spec {k : List V} (hk : isK .u8 32 k = true) : PCalls DX 95 [.lst false k, .int .u8 92] fun b => b = .ret (.agg (DC (k5c k).1 (.lst false []) (k5c k).2)) := Classical.choose_spec (key_of key5c k) hk
/-- What is summed behind a digest. -/
def tailF (p : (Nat → Int) × Int) (bs : List V) : List V := sumF (wrS p.1 bs) (wv bs (bs.length / 64)) (IntKind.u64.wrap (p.2 + bs.length))
def macF (k bs : List V) : List V := tailF (k5c k) (tailF (k36 k) bs)
theorem tail_spec (p : (Nat → Int) × Int) {bs : List V} (hB : isB bs) : isK .u8 32 (tailF p bs) = true ∧ PCalls DX 20 [.agg (DC (wrS p.1 bs) (wv bs (bs.length / 64)) (IntKind.u64.wrap (p.2 + bs.length)))] fun b => b = .ret (.agg (tailF p bs)) := sumF_spec (wv_rest hB)
theorem isB_K {n : Nat} {l : List V} (h : isK .u8 n l = true) : isB l := isK_all h
theorem write_at {h : Hp} (p : (Nat → Int) × Int) {bV : V} {bs : List V} {lb : Nat} (hb : Sl h 1 bV lb bs) (hl : lb < 2 ^ 30) (hB : isB bs) : ACalls DX 19 [.agg (DC p.1 (.lst false []) p.2), bV] h fun r h' => r = .ret (.agg (DC (wrS p.1 bs) (wv bs (bs.length / 64)) (IntKind.u64.wrap (p.2 + bs.length)))) ∧ h' = h := by
  have := shaWrite (s := p.1) (n := p.2) (h := h) (rv := .lst false []) (lr := 0) (rest := []) ⟨rfl, rfl, trivial⟩ hb (by omega) (by simpa using hB)
  have e : bs.length = lb := by have := hb.ylen; omega
  rw [List.nil_append, ← e] at this
  exact this
theorem tail_at (p : (Nat → Int) × Int) {bs : List V} (hB : isB bs) (h : Hp) : ACalls DX 20 [.agg (DC (wrS p.1 bs) (wv bs (bs.length / 64)) (IntKind.u64.wrap (p.2 + bs.length)))] h fun r h' => r = .ret (.agg (tailF p bs)) ∧ h' = h :=
  (PCalls.at DX.low (tail_spec p hB).2 (fun v hv => by simp at hv; subst hv; exact .agg _ (DC_low (wv_low hB _))) h)
set_option maxHeartbeats 1000000 in
theorem macSum {k bs : List V} {ex : Bool} (hk : isK .u8 32 k = true) (hB : isB bs) (hl : bs.length < 2 ^ 29) : isK .u8 32 (macF k bs) = true ∧ PCalls DX 87 [.lst false k, .lst ex bs] fun r => r = .ret (.agg (macF k bs)) := by
  have h1 := (tail_spec (k36 k) hB).1
  have hB2 := isB_K h1
  have h2 := (tail_spec (k5c k) hB2).1
  refine ⟨h2, ?_⟩
  refine PCalls.of (acall DX.ok ck87 rfl ?_) fun r hr => by subst hr; exact .agg _ (isK_low h2)
  have kl : ∀ (i : Int), ∀ a ∈ [V.lst false k, .int .u8 i], Low 0 a := fun i a ha => by
    simp at ha; rcases ha with rfl | rfl
    · exact lowB (isB_K hk) _
    · exact .int _ _
  simp [F87]
  refine (PCalls.at DX.low (k36_spec hk) (kl 54) _).mono ?_
  rintro r h' ⟨rfl, rfl⟩
  simp
  refine (write_at (k36 k) (sl_lst hB) (by omega) hB).mono ?_
  rintro r h' ⟨rfl, rfl⟩
  simp
  refine (tail_at (k36 k) hB _).mono ?_
  rintro r h' ⟨rfl, rfl⟩
  have o1 : ∀ c ∈ tailF (k36 k) bs, c.one = true := fun c hc => by obtain ⟨n, rfl⟩ := hB2 c hc; rfl
  have l1 := isK_len h1
  generalize hin : tailF (k36 k) bs = inn at h1 hB2 h2 o1 l1
  have hmac : macF k bs = tailF (k5c k) inn := by unfold macF; rw [hin]
  rw [hmac]
  have o2 : ∀ c ∈ tailF (k5c k) inn, c.one = true := fun c hc => by obtain ⟨n, rfl⟩ := isK_all h2 c hc; rfl
  have l2 := isK_len h2
  have s1 : ∀ A Z : List V, Z.length = 32 → stV [some (.cells A none), some (.cells Z none)] 32 (.ptr 1 0) (.agg inn) = some (.skip [some (.cells A none), some (.cells inn none)]) := fun A Z hZ => by
    rw [st_all (n := 32) (old := Z) rfl hZ l1 o1]; rfl
  simp [hin, s1]
  refine vD_lin ?_
  have rdi : ∀ A : List V, rd [some (.cells A none), some (.cells inn none)] (.ptr 1 0) 32 = some inn := fun A => rd_allc rfl l1
  have sc : ∀ A : List V, slcaVV [some (.cells A none), some (.cells inn none)] 32 1 false (.ptr 1 0) = some (.val (.sl 1 0 32 32 true 1 false) [some (.cells A none), some (.cells inn none)]) := fun A => by
    simp only [slcaVV, Nat.mul_one, rdi]; rfl
  simp [reL, vLs, vLg, vLq, dstO, nth_zero, nth_succ, nd, tell, aop_slcaV, sc]
  refine (PCalls.at DX.low (k5c_spec hk) (kl 92) _).mono ?_
  rintro r h' ⟨rfl, rfl⟩
  simp [reL, vLs, vLg, vLq, dstO, nth_zero, nth_succ, nd, tell, aop_slcaV, sc]
  have hsl : ∀ A : List V, Sl [some (.cells A none), some (.cells inn none)] 1 (.sl 1 0 32 32 true 1 false) 32 inn := fun A => ⟨by simp only [src, Nat.mul_one, if_pos, rdi]; rfl, rfl, Nat.le_refl _⟩
  refine (write_at (k5c k) (hsl _) (by omega) hB2).mono ?_
  rintro r h' ⟨rfl, rfl⟩
  simp [reL, vLs, vLg, vLq, dstO, nth_zero, nth_succ, nd, tell]
  refine (tail_at (k5c k) hB2 _).mono ?_
  rintro r h' ⟨rfl, rfl⟩
  have s2 : ∀ A Z : List V, A.length = 32 → stV [some (.cells A none), some (.cells Z none)] 32 (.ptr 0 0) (.agg (tailF (k5c k) inn)) = some (.skip [some (.cells (tailF (k5c k) inn) none), some (.cells Z none)]) := fun A Z hA => by
    rw [st_all (n := 32) (old := A) rfl hA l2 o2]; rfl
  simp [reL, vLs, vLg, vLq, dstO, nth_zero, nth_succ, nd, tell, s2]
  exact resV_c1 (rd_allc rfl l2)
theorem extract {k bs : List V} {ex : Bool} (hk : isK .u8 32 k = true) (hB : isB bs) (hl : bs.length < 2 ^ 29) : PCalls DX 84 [.lst false k, .lst ex bs] fun r => r = .ret (.agg (macF k bs)) := by
  have hm := macSum (ex := ex) hk hB hl
  refine PCalls.of (acall DX.ok ck84 rfl ?_) fun r hr => by subst hr; exact .agg _ (isK_low hm.1)
  have l2 := isK_len hm.1
  have o2 : ∀ c ∈ macF k bs, c.one = true := fun c hc => by obtain ⟨n, rfl⟩ := isK_all hm.1 c hc; rfl
  simp [F84]
  refine (PCalls.at DX.low hm.2 (fun a ha => by
    simp at ha; rcases ha with rfl | rfl
    · exact lowB (isB_K hk) _
    · exact lowB hB _) _).mono ?_
  rintro r h' ⟨rfl, rfl⟩
  have s2 : ∀ A : List V, A.length = 32 → stV [some (.cells A none)] 32 (.ptr 0 0) (.agg (macF k bs)) = some (.skip [some (.cells (macF k bs) none)]) := fun A hA => by
    rw [st_all (n := 32) (old := A) rfl hA l2 o2]; rfl
  simp [s2]
  exact resV_c1 (rd_allc rfl l2)
end
end Go.Proofs.YtfinnljkcgglfaaDoor
