/- sha's mixed, known on whatever slice. -/
import Derived.Test.YtfinnljkcgglfaaDoorZjWJ
set_option linter.unusedSimpArgs false
set_option linter.unusedVariables false
namespace Go.Proofs.YtfinnljkcgglfaaDoor
open Go Go.Vs
set_option maxRecDepth 100000
def SumX (s l : List V) (n : Int) (k : Nat) : Prop := ∃ r, okA .u8 32 r = true ∧ PCalls DX 20 [.agg (S8 s ++ [.lst false (cellsK .u8 k l), .int .u64 n])] fun b => b = r
noncomputable section
def mixB (H : K.HT) : List V → Option V
  | [.agg st, .sl b off n cap ex es ag] => match K.rdE H.g (.ptr b off) (Nat.mul n es) with
    | some ys => match isK .u32 8 st && isK .u8 64 ys && Nat.beq es 1 && !ag with
      | true => some (.agg (S8 (mixF st ys)))
      | false => none
    | none => none
  | [.agg st, .lst false ys] => match isK .u32 8 st && isK .u8 64 ys with
    | true => some (.agg (S8 (mixF st ys)))
    | false => none
  | _ => none
def mixQB (f : FuncId) (args : List V) (H : K.HT) : Option (Res × K.HT) := match Nat.beq f 25 with
  | true => match mixB H args with
    | some v => some (.ret v, H)
    | none => none
  | false => none
theorem mixQB_ok : ∀ g args h r h', mixQB g args h = some (r, h') → ACalls DX g args h.l fun a b => a = r ∧ b = h'.l := by
  intro g args H r h' he
  unfold mixQB at he
  split at he
  · rename_i hb
    have := Nat.eq_of_beq_eq_true hb
    subst this
    split at he
    · rename_i v hv
      simp only [Option.some.injEq, Prod.mk.injEq] at he
      obtain ⟨rfl, rfl⟩ := he
      unfold mixB at hv
      split at hv
      · rename_i st b off n cap ex es ag
        split at hv
        · rename_i ys hr
          split at hv
          · rename_i hc
            simp only [Bool.and_eq_true, Bool.not_eq_true'] at hc
            obtain ⟨⟨⟨c1, c2⟩, c3⟩, c4⟩ := hc
            have := Nat.eq_of_beq_eq_true c3
            subst this
            subst c4
            cases hv
            obtain ⟨hk, hp⟩ := mix_spec c1 c2
            rw [show S8 (mixF st ys) = mixF st ys from cellsK_eq (k := .u32) (n := 8) hk]
            have hr' : rd H.l (.ptr b off) (n * 1) = some ys := by rw [K.rdE_eq, K.HT.g_eq]; exact hr
            have hlen : ys.length = n := by
              simp only [rd] at hr'
              split at hr'
              · have := (sub_spec hr').2.1; omega
              · cases hr'
            have hF : Fzns H.l [.agg st, .sl b off n cap ex 1 false] [.agg st, .lst false ys] := by
              refine ⟨.low _ (.agg _ (isK_low c1)), ?_, trivial⟩
              have := Fzn.sl (h := H.l) b off n cap 1 ex false ys hr' (fun _ => rfl) (isK_low c2)
              rwa [chunk_one n ys hlen] at this
            exact (hp.frz DX.low (fun r hr => by subst hr; exact .agg _ (isK_sc hk)) hF)
          · cases hv
        · cases hv
      · rename_i st ys
        split at hv
        · rename_i hc
          simp only [Bool.and_eq_true] at hc
          obtain ⟨c1, c2⟩ := hc
          cases hv
          obtain ⟨hk, hp⟩ := mix_spec c1 c2
          rw [show S8 (mixF st ys) = mixF st ys from cellsK_eq (k := .u32) (n := 8) hk]
          refine PCalls.at DX.low hp (fun a ha => ?_) _
          simp at ha
          rcases ha with rfl | rfl
          · exact .agg _ (isK_low c1)
          · refine .lst _ _ fun c hc => ?_
            unfold flat at hc
            obtain ⟨y, hy, hc⟩ := List.mem_flatMap.1 hc
            obtain ⟨z, rfl⟩ := isK_all c2 y hy
            simp [V.cells] at hc; subst hc; exact .int _ _
        · cases hv
      · cases hv
    · cases he
  · cases he
def CMB : K.Tb := DX.T known mixQB
theorem CMB.ok : K.TbOk DX CMB := DX.tok known mixQB known_ok mixQB_ok
end
end Go.Proofs.YtfinnljkcgglfaaDoor
namespace Go.Proofs.YtfinnljkcgglfaaDoor
open Go Go.Vs
set_option maxRecDepth 100000
theorem sum_0 (s l : List V) (n : Int) : SumX s l n 0 := ex_of DX.ok DX.low CMB.ok (n := 3000) (by kernel_rfl)
theorem sum_1 (s l : List V) (n : Int) : SumX s l n 1 := ex_of DX.ok DX.low CMB.ok (n := 3000) (by kernel_rfl)
theorem sum_2 (s l : List V) (n : Int) : SumX s l n 2 := ex_of DX.ok DX.low CMB.ok (n := 3000) (by kernel_rfl)
theorem sum_3 (s l : List V) (n : Int) : SumX s l n 3 := ex_of DX.ok DX.low CMB.ok (n := 3000) (by kernel_rfl)
theorem sum_4 (s l : List V) (n : Int) : SumX s l n 4 := ex_of DX.ok DX.low CMB.ok (n := 3000) (by kernel_rfl)
theorem sum_5 (s l : List V) (n : Int) : SumX s l n 5 := ex_of DX.ok DX.low CMB.ok (n := 3000) (by kernel_rfl)
theorem sum_6 (s l : List V) (n : Int) : SumX s l n 6 := ex_of DX.ok DX.low CMB.ok (n := 3000) (by kernel_rfl)
theorem sum_7 (s l : List V) (n : Int) : SumX s l n 7 := ex_of DX.ok DX.low CMB.ok (n := 3000) (by kernel_rfl)
theorem sum_8 (s l : List V) (n : Int) : SumX s l n 8 := ex_of DX.ok DX.low CMB.ok (n := 3000) (by kernel_rfl)
theorem sum_9 (s l : List V) (n : Int) : SumX s l n 9 := ex_of DX.ok DX.low CMB.ok (n := 3000) (by kernel_rfl)
theorem sum_10 (s l : List V) (n : Int) : SumX s l n 10 := ex_of DX.ok DX.low CMB.ok (n := 3000) (by kernel_rfl)
theorem sum_11 (s l : List V) (n : Int) : SumX s l n 11 := ex_of DX.ok DX.low CMB.ok (n := 3000) (by kernel_rfl)
theorem sum_12 (s l : List V) (n : Int) : SumX s l n 12 := ex_of DX.ok DX.low CMB.ok (n := 3000) (by kernel_rfl)
theorem sum_13 (s l : List V) (n : Int) : SumX s l n 13 := ex_of DX.ok DX.low CMB.ok (n := 3000) (by kernel_rfl)
theorem sum_14 (s l : List V) (n : Int) : SumX s l n 14 := ex_of DX.ok DX.low CMB.ok (n := 3000) (by kernel_rfl)
theorem sum_15 (s l : List V) (n : Int) : SumX s l n 15 := ex_of DX.ok DX.low CMB.ok (n := 3000) (by kernel_rfl)
theorem sum_nil (s : List V) (n : Int) : ∃ r, okA .u8 32 r = true ∧ PCalls DX 20 [.agg (S8 s ++ [.nsl, .int .u64 n])] fun b => b = r := ex_of DX.ok DX.low CMB.ok (n := 3000) (by kernel_rfl)
end Go.Proofs.YtfinnljkcgglfaaDoor
