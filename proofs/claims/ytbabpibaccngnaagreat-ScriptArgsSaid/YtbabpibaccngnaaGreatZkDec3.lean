/- What is known of calls: with script.Decode. -/
import Derived.Test.YtbabpibaccngnaaGreatZkDec2
import Derived.Test.YtbabpibaccngnaaGreatZv6
namespace Go.Proofs.YtbabpibaccngnaaGreat
open Go Go.Vs Go.RowKit
set_option maxRecDepth 100000
def bytesOf : List V → Option (List UInt8)
  | [] => some []
  | .int .u8 n :: r => match bytesOf r with
    | some l => match decide (0 ≤ n) && decide (n < 256) with
      | true => some (UInt8.ofNat n.toNat :: l)
      | false => none
    | none => none
  | _ => none
theorem bytesOf_eq : ∀ {xs : List V} {s : List UInt8}, bytesOf xs = some s → xs = bytesV s
  | [], s, h => by cases h; rfl
  | x :: r, s, h => by
    unfold bytesOf at h
    split at h
    · rename_i hx; cases hx
    · rename_i n r' hx
      injection hx with hx hr
      subst hx; subst hr
      split at h
      · rename_i l hl
        split at h
        · rename_i hb
          simp only [Bool.and_eq_true, decide_eq_true_eq] at hb
          cases h
          rw [bytesOf_eq hl]
          show _ = V.int .u8 _ :: bytesV l
          congr 2
          rw [UInt8.toNat_ofNat']
          omega
        · cases h
      · cases h
    · cases h
def decodeK (args : List V) : Option V := match args with
  | [.nsl] => some (decodeV [])
  | [.lst _ xs] => match bytesOf xs with
    | some s => match Nat.ble s.length 1000000 with
      | true => some (decodeV s)
      | false => none
    | none => none
  | _ => none
theorem decodeK_ok {args : List V} {v : V} (h : decodeK args = some v) : PCalls CX 28 args fun r => r = .ret v := by
  unfold decodeK at h
  split at h
  · cases h; exact decode_spec (.inl ⟨rfl, rfl⟩) (by simp)
  · rename_i ex xs
    split at h
    · rename_i s hs
      split at h
      · rename_i hb
        cases h
        have := Nat.le_of_ble_eq_true hb
        exact decode_spec (.inr ⟨ex, by rw [bytesOf_eq hs]⟩) (by omega)
      · cases h
    · cases h
  · cases h
def knownD (f : FuncId) (args : List V) : Option V := match Nat.beq f 28 with
  | true => decodeK args
  | false => known f args
theorem knownD_ok : ∀ g args v, knownD g args = some v → PCalls CX g args fun r => r = .ret v := by
  intro g args v h
  unfold knownD at h
  split at h
  · rename_i hb; have := Nat.eq_of_beq_eq_true hb; subst this; exact decodeK_ok h
  · exact known_ok g args v h
noncomputable def CD (fs : List FuncId) (l : List K.Stp) : K.Tb := CX.T knownD (K.stepF fs l)
theorem CD.ok (fs : List FuncId) {l : List K.Stp} (hl : ∀ s ∈ l, s.ok CX) : K.TbOk CX (CD fs l) := CX.tok knownD _ knownD_ok (K.stepF_ok hl)
end Go.Proofs.YtbabpibaccngnaaGreat
