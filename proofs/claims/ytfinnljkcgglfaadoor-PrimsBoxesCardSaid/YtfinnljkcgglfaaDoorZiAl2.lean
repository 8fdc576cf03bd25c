/- alive of layer 11. -/
import Derived.Test.YtfinnljkcgglfaaDoorZiAl1
namespace Go.Proofs.YtfinnljkcgglfaaDoor
open Go Go.Vs Go.RowKit
set_option maxRecDepth 100000
set_option linter.unusedSimpArgs false
set_option linter.unusedVariables false

noncomputable def slOut (bs : List V) : Option (Res × K.HT) → Bool
  | some (.ret (.tup [.sl b off n cap ex es ag, e]), H) => match K.rdE H.g (.ptr b off) (Nat.mul n es) with
    | some ys => K.sameVs ys bs && Nat.beq es 1 && !ag && K.sameV e (.int .i64 0)
    | none => false
  | _ => false
theorem slOut_ok {T : K.Tb} (hT : K.TbOk DX T) {n : Nat} {f : FuncId} {args bs : List V} (hb : allInt bs = true) (h : slOut bs (K.evF DX T n f args K.HT.nil) = true) : PCalls DX f args fun r => r = .ret (.tup [.lst false bs, .int .i64 0]) := by
  unfold slOut at h
  split at h
  · rename_i b off m cap ex es ag e H he
    split at h
    · rename_i ys hr
      simp only [Bool.and_eq_true, Bool.not_eq_true'] at h
      obtain ⟨⟨⟨h1, h2⟩, h3⟩, h4⟩ := h
      have := Nat.eq_of_beq_eq_true h2
      subst this
      subst h3
      have e1 := K.sameVs_eq _ _ h1
      have e2 := K.sameV_eq _ _ h4
      subst e1
      subst e2
      have hs := (K.evFP_sound DX.ok DX.low hT n).1 _ _ _ _ _ he
      rw [K.HT.nil_l] at hs
      have hr' : rd H.l (.ptr b off) (m * 1) = some ys := by rw [K.rdE_eq, K.HT.g_eq]; exact hr
      refine hs.ice ?_
      rintro r h' ⟨rfl, rfl⟩
      refine ⟨Nat.zero_le _, LowH.zero _, .ret (.tup [.lst false ys, .int .i64 0]), ?_, rfl, by simp⟩
      show Ice H.l 0 (.tup [.sl b off m cap ex 1 false, .int .i64 0]) (.tup [.lst false ys, .int .i64 0])
      refine .tup _ _ rfl fun j x y hx hy => ?_
      match j with
      | 0 =>
        simp at hx hy; subst hx; subst hy
        simp only [rd] at hr'
        split at hr'
        · rename_i cs ty hg
          have hlen : ys.length = m := by have := (sub_spec hr').2.1; omega
          have := Ice.sl (h := H.l) (k := 0) b off m cap ex 1 false cs ty ys ys (Nat.zero_le _) hg hr' (fun _ => rfl) rfl (fun j x y hx hy => by
            rw [hx] at hy; cases hy
            exact .low _ (allInt_low hb _ (List.mem_of_getElem? hx))) (fun x hx => by
            obtain ⟨k, n, rfl⟩ := allInt_spec hb x hx; rfl)
          rwa [chunk_one m ys hlen] at this
        · cases hr'
      | 1 => simp at hx hy; subst hx; subst hy; exact .low _ (.int _ _)
      | j + 2 => simp at hx
    · cases h
  · cases h

theorem exp_ok : PCalls DX 83 [.agg extV0, .nsl, .int .i64 64] fun r => r = .ret (.tup [.lst false (bytesV expV0), .int .i64 0]) := slOut_ok CTM.ok (n := 3000) (by kernel_rfl) (by kernel_rfl)

theorem shaAbc_low : ∀ y ∈ shaAbc, y.one = true ∧ Low 0 y := fun y hy => by
  obtain ⟨k, n, rfl⟩ := allInt_spec (show allInt shaAbc = true from by kernel_rfl) y hy
  exact ⟨rfl, .int _ _⟩
theorem keys_ok : PCalls DX 81 [.agg shaAbc, .lst false [], .int .i64 2] fun r => r = .ret (.tup [keysV 2 expV0, .int .i64 0]) := by
  have hlow : Low 0 (.lst false []) := .lst _ _ (by simp [flat])
  refine keys_spec (n := 2) (s := expV0) (key := shaAbc) (X := .agg extV0) (L := .lst false (bytesV expV0)) rfl shaAbc_low hlow (by omega) (by omega) (.inr ⟨_, rfl⟩) rfl ?_ exp_ok (.agg _ (allInt_low (by kernel_rfl)))
  have hF : Fzns [some (.cells shaAbc none)] [.sl 0 0 32 32 true 1 false, .lst false []] [.lst false shaAbc, .lst false []] := by
    refine ⟨?_, .low _ hlow, trivial⟩
    have := Fzn.sl (h := [some (.cells shaAbc none)]) 0 0 32 32 1 true false shaAbc rfl (fun _ => rfl) (fun y hy => (shaAbc_low y hy).2)
    rwa [chunk_one 32 shaAbc rfl] at this
  exact ext_ok.frz DX.low (fun r hr => by subst hr; exact .agg _ (allInt_sc (by kernel_rfl))) hF

noncomputable section
def keysK : List V → Option V
  | [.agg k, .lst false [], .int .i64 2] => match K.sameVs k shaAbc with
    | true => some (.tup [keysV 2 expV0, .int .i64 0])
    | false => none
  | _ => none
theorem keysK_ok {args : List V} {v : V} (h : keysK args = some v) : PCalls DX 81 args fun r => r = .ret v := by
  unfold keysK at h
  split at h
  · split at h
    · rename_i hb
      cases h
      rw [K.sameVs_eq _ _ hb]
      exact keys_ok
    · cases h
  · cases h
def knownA (f : FuncId) (args : List V) : Option V := match Nat.beq f 81 with
  | true => keysK args
  | false => knownT f args
theorem knownA_ok : ∀ g args v, knownA g args = some v → PCalls DX g args fun r => r = .ret v := by
  intro g args v h
  unfold knownA at h
  split at h
  · rename_i hb; have := Nat.eq_of_beq_eq_true hb; subst this; exact keysK_ok h
  · exact knownT_ok g args v h
def CTA : K.Tb := DX.T knownA mixQ
theorem CTA.ok : K.TbOk DX CTA := DX.tok knownA mixQ knownA_ok mixQ_ok
end
theorem alive11 : PCalls DX 6 [] fun r => r = .ret (.bool true) := K.pure_ok DX.ok DX.low CTA.ok (n := 3000) (by kernel_rfl)
end Go.Proofs.YtfinnljkcgglfaaDoor
