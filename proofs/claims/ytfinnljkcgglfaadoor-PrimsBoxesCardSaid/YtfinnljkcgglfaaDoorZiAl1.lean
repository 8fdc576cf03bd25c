/- Blocks that are known, read through whatever slice; alive of layer 11. -/
import Derived.Test.YtfinnljkcgglfaaDoorZiMT
import Derived.Test.YtfinnljkcgglfaaDoorZiKeys
namespace Go.Proofs.YtfinnljkcgglfaaDoor
open Go Go.Vs Go.RowKit
set_option maxRecDepth 100000
set_option linter.unusedSimpArgs false
set_option linter.unusedVariables false

def isInt : V → Bool
  | .int _ _ => true
  | _ => false
def allInt : List V → Bool
  | [] => true
  | v :: r => match isInt v with
    | true => allInt r
    | false => false
theorem allInt_spec : ∀ {l : List V}, allInt l = true → ∀ v ∈ l, ∃ k n, v = .int k n
  | [], _, v, hv => by cases hv
  | a :: r, h, v, hv => by
    simp only [allInt] at h
    split at h
    · rename_i h1
      rcases List.mem_cons.1 hv with rfl | hv
      · cases v <;> first | exact ⟨_, _, rfl⟩ | cases h1
      · exact allInt_spec h v hv
    · cases h
theorem allInt_low {l : List V} (h : allInt l = true) : ∀ v ∈ l, Low 0 v := fun v hv => by
  obtain ⟨k, n, rfl⟩ := allInt_spec h v hv; exact .int _ _
theorem allInt_sc {l : List V} (h : allInt l = true) : ∀ v ∈ l, Sc v := fun v hv => by
  obtain ⟨k, n, rfl⟩ := allInt_spec h v hv; exact .int _ _
theorem chunk_one : ∀ (n : Nat) (l : List V), l.length = n → chunk 1 false n l = l
  | 0, [], _ => rfl
  | n + 1, a :: r, h => by simp [chunk, chunk_one n r (by simpa using h)]
  | 0, _ :: _, h => by simp at h
  | n + 1, [], h => by simp at h

noncomputable section
def mixLook : List (List V × List V × List V) → List V → List V → Option V
  | [], _, _ => none
  | e :: r, st, ys => match K.sameVs e.1 st && K.sameVs e.2.1 ys && allInt e.2.2 with
    | true => some (.agg e.2.2)
    | false => mixLook r st ys
theorem mixLook_ok : ∀ {l : List (List V × List V × List V)}, (∀ e ∈ l, PCalls DX 25 [.agg e.1, .lst false e.2.1] fun r => r = .ret (.agg e.2.2)) → ∀ {st ys : List V} {v : V}, mixLook l st ys = some v → Sc v ∧ PCalls DX 25 [.agg st, .lst false ys] fun r => r = .ret v
  | [], _, st, ys, v, h => by cases h
  | e :: r, H, st, ys, v, h => by
    simp only [mixLook] at h
    split at h
    · rename_i hb
      simp only [Bool.and_eq_true] at hb
      cases h
      rw [← K.sameVs_eq _ _ hb.1.1, ← K.sameVs_eq _ _ hb.1.2]
      exact ⟨.agg _ (allInt_sc hb.2), H e (List.mem_cons_self ..)⟩
    · exact mixLook_ok (fun e he => H e (List.mem_cons_of_mem _ he)) h
def mixA (H : K.HT) : List V → Option V
  | [.agg st, .sl b off n cap ex es ag] => match K.rdE H.g (.ptr b off) (Nat.mul n es) with
    | some ys => match allInt st && allInt ys && Nat.beq es 1 && !ag with
      | true => mixLook mixTab st ys
      | false => none
    | none => none
  | _ => none
def mixQ (f : FuncId) (args : List V) (H : K.HT) : Option (Res × K.HT) := match Nat.beq f 25 with
  | true => match mixA H args with
    | some v => some (.ret v, H)
    | none => none
  | false => none
theorem mixQ_ok : ∀ g args h r h', mixQ g args h = some (r, h') → ACalls DX g args h.l fun a b => a = r ∧ b = h'.l := by
  intro g args H r h' he
  unfold mixQ at he
  split at he
  · rename_i hb
    have := Nat.eq_of_beq_eq_true hb
    subst this
    split at he
    · rename_i v hv
      simp only [Option.some.injEq, Prod.mk.injEq] at he
      obtain ⟨rfl, rfl⟩ := he
      unfold mixA at hv
      split at hv
      · rename_i st b off n cap ex es ag
        split at hv
        · rename_i ys hr
          split at hv
          · rename_i hc
            simp only [Bool.and_eq_true, Bool.not_eq_true'] at hc
            obtain ⟨⟨⟨c1, c2⟩, c3⟩, c4⟩ := hc
            have := Nat.eq_of_beq_eq_true c3
            subst this
            subst c4
            obtain ⟨hsc, hp⟩ := mixLook_ok mixTab_ok hv
            have hr' : rd H.l (.ptr b off) (n * 1) = some ys := by rw [K.rdE_eq, K.HT.g_eq]; exact hr
            have hlen : ys.length = n := by
              simp only [rd] at hr'
              split at hr'
              · have := (sub_spec hr').2.1; omega
              · cases hr'
            have hF : Fzns H.l [.agg st, .sl b off n cap ex 1 false] [.agg st, .lst false ys] := by
              refine ⟨.low _ (.agg _ (allInt_low c1)), ?_, trivial⟩
              have := Fzn.sl (h := H.l) b off n cap 1 ex false ys hr' (fun _ => rfl) (allInt_low c2)
              rwa [chunk_one n ys hlen] at this
            exact (hp.frz DX.low (fun r hr => by subst hr; exact hsc) hF)
          · cases hv
        · cases hv
      · cases hv
    · cases he
  · cases he
def CTM : K.Tb := DX.T knownT mixQ
theorem CTM.ok : K.TbOk DX CTM := DX.tok knownT mixQ knownT_ok mixQ_ok

end

theorem ext_ok : PCalls DX 84 [.lst false shaAbc, .lst false []] fun r => r = .ret (.agg extV0) := K.pure_ok DX.ok DX.low CTM.ok (n := 2000) (by kernel_rfl)
end Go.Proofs.YtfinnljkcgglfaaDoor
