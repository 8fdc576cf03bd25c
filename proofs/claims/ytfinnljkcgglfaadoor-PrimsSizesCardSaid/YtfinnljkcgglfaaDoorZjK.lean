/- mac.Expand, mac.Keys: one answer each. -/
import Derived.Test.YtfinnljkcgglfaaDoorZjMJ
import Derived.Test.YtfinnljkcgglfaaDoorZlDecodeJ
namespace Go.Proofs.YtfinnljkcgglfaaDoor
open Go Go.Vs Go.RowKit
set_option maxRecDepth 100000
set_option linter.unusedSimpArgs false
set_option linter.unusedVariables false
attribute [local simp] unV extV wanted strBin vpt vpn vmp nilV_ptr vic vsn
noncomputable section
def slOk (k : Nat) : Option (Res × K.HT) → Bool
  | some (.ret (.tup [.sl b off n cap ex es ag, e]), H) => match K.rdE H.g (.ptr b off) (Nat.mul n es) with
    | some ys => isK .u8 k ys && Nat.beq es 1 && !ag && K.sameV e (.int .i64 0)
    | none => false
  | _ => false
theorem slOk_ex {T : K.Tb} (hT : K.TbOk DX T) {n k : Nat} {f : FuncId} {args : List V} (h : slOk k (K.evF DX T n f args K.HT.nil) = true) : ∃ bs, isK .u8 k bs = true ∧ PCalls DX f args fun r => r = .ret (.tup [.lst false bs, .int .i64 0]) := by
  unfold slOk at h
  split at h
  · rename_i b off m cap ex es ag e H he
    split at h
    · rename_i ys hr
      simp only [Bool.and_eq_true, Bool.not_eq_true'] at h
      obtain ⟨⟨⟨h1, h2⟩, h3⟩, h4⟩ := h
      have := Nat.eq_of_beq_eq_true h2
      subst this
      subst h3
      have e2 := K.sameV_eq _ _ h4
      subst e2
      have hs := (K.evFP_sound DX.ok DX.low hT n).1 _ _ _ _ _ he
      rw [K.HT.nil_l] at hs
      have hr' : rd H.l (.ptr b off) (m * 1) = some ys := by rw [K.rdE_eq, K.HT.g_eq]; exact hr
      refine ⟨ys, h1, hs.ice ?_⟩
      rintro r h' ⟨rfl, rfl⟩
      refine ⟨Nat.zero_le _, LowH.zero _, .ret (.tup [.lst false ys, .int .i64 0]), ?_, rfl, by simp⟩
      show Ice H.l 0 (.tup [.sl b off m cap ex 1 false, .int .i64 0]) (.tup [.lst false ys, .int .i64 0])
      refine .tup _ _ rfl fun j x y hx hy => ?_
      match j with
      | 0 =>
        simp at hx hy; subst hx; subst hy
        simp only [rd] at hr'
        split at hr'
        · rename_i cs ty hg
          have hlen : ys.length = m := by have := (sub_spec hr').2.1; omega
          have := Ice.sl (h := H.l) (k := 0) b off m cap ex 1 false cs ty ys ys (Nat.zero_le _) hg hr' (fun _ => rfl) rfl (fun j x y hx hy => by
            rw [hx] at hy; cases hy
            exact .low _ (isK_low h1 _ (List.mem_of_getElem? hx))) (fun x hx => by
            obtain ⟨n, rfl⟩ := isK_all h1 x hx; rfl)
          rwa [chunk_one m ys hlen] at this
        · cases hr'
      | 1 => simp at hx hy; subst hx; subst hy; exact .low _ (.int _ _)
      | j + 2 => simp at hx
    · cases h
  · cases h
theorem exp1 (x : List V) : ∃ bs, isK .u8 32 bs = true ∧ PCalls DX 83 [.agg (N32 x), .nsl, .int .i64 32] fun r => r = .ret (.tup [.lst false bs, .int .i64 0]) := slOk_ex CK1.ok (n := 3000) (by kernel_rfl)
theorem exp2 (x : List V) : ∃ bs, isK .u8 64 bs = true ∧ PCalls DX 83 [.agg (N32 x), .nsl, .int .i64 64] fun r => r = .ret (.tup [.lst false bs, .int .i64 0]) := slOk_ex CK1.ok (n := 3000) (by kernel_rfl)
theorem exp3 (x : List V) : ∃ bs, isK .u8 96 bs = true ∧ PCalls DX 83 [.agg (N32 x), .nsl, .int .i64 96] fun r => r = .ret (.tup [.lst false bs, .int .i64 0]) := slOk_ex CK1.ok (n := 3000) (by kernel_rfl)
theorem exp_ex (x : List V) {n : Nat} (h1 : 1 ≤ n) (h3 : n ≤ 3) : ∃ bs, isK .u8 (32 * n) bs = true ∧ PCalls DX 83 [.agg (N32 x), .nsl, .int .i64 (32 * (n : Int))] fun r => r = .ret (.tup [.lst false bs, .int .i64 0]) := by
  rcases (show n = 1 ∨ n = 2 ∨ n = 3 by omega) with rfl | rfl | rfl
  · exact exp1 x
  · exact exp2 x
  · exact exp3 x
theorem ints_of {n : Nat} {bs : List V} (h : isK .u8 n bs = true) : ∃ s : List Int, s.length = n ∧ bytesI s = bs := by
  refine ⟨(List.range n).map (intAt bs), by simp, ?_⟩
  have := cellsK_eq h
  unfold cellsK at this
  unfold bytesI
  rw [List.map_map]
  exact this
/-- Keys' answer: a row of arrays. -/
theorem keysK_ex {key bs : List V} {n : Nat} (hk : isK .u8 32 key = true) (hB : isB bs) (hl : bs.length < 2 ^ 29) (h1 : 1 ≤ n) (h3 : n ≤ 3) : ∃ s : List Int, s.length = 32 * n ∧ PCalls DX 81 [.agg key, .lst false bs, .int .i64 n] fun r => r = .ret (.tup [keysVQ n s, .int .i64 0]) := by
  obtain ⟨out, ho, hE⟩ := exp_ex (macF key bs) h1 h3
  have hm := macSum (ex := false) hk hB hl
  rw [N32_id hm.1] at hE
  obtain ⟨s, hs, rfl⟩ := ints_of ho
  refine ⟨s, hs, ?_⟩
  refine keys_specQ (X := .agg (macF key bs)) (L := .lst false (bytesI s)) (isK_len hk) (fun y hy => ?_) (lowB hB _) h1 h3 (.inr ⟨_, rfl⟩) hs ?_ hE (.agg _ (isK_low hm.1))
  · obtain ⟨m, rfl⟩ := isK_all hk y hy; exact ⟨rfl, .int _ _⟩
  · have hx := extract (ex := false) hk hB hl
    refine (hx.frz DX.low (fun r hr => by subst hr; exact .agg _ (isK_sc hm.1)) (h := [some (.cells key none)]) (args := [.sl 0 0 32 32 true 1 false, .lst false bs]) ⟨?_, .low _ (lowB hB _), trivial⟩).mono fun r h' hr => hr
    have := Fzn.sl (h := [some (.cells key none)]) 0 0 32 32 1 true false key (rd_allc rfl (isK_len hk)) (fun _ => rfl) (isK_low hk)
    rwa [chunk_one 32 key (isK_len hk)] at this
theorem keys_err {key bs : List V} {n : Int} (hk : isK .u8 32 key = true) (hn : n < 1 ∨ 3 < n) : PCalls DX 81 [.agg key, .lst false bs, .int .i64 n] fun r => r = .ret (.tup [.nsl, .int .i64 2]) := by
  refine PCalls.of (acall DX.ok ck81 rfl ?_) fun r hr => by subst hr; exact .tup _ (by simp; exact ⟨.nsl, .int _ _⟩)
  have ho : (∀ c ∈ key, c.one = true) = True := eq_true fun c hc => by obtain ⟨m, rfl⟩ := isK_all hk c hc; rfl
  rcases hn with hn | hn
  · simp [F81, V.cells, ho, hn]
  · have h1 : ¬ n < 1 := by omega
    have h1' : 1 ≤ n := by omega
    simp [F81, V.cells, ho, hn, h1, h1']
end
end Go.Proofs.YtfinnljkcgglfaaDoor
