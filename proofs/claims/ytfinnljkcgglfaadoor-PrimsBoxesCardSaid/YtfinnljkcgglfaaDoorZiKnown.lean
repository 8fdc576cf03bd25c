/- What is known of package codec's calls, in a form that is reckoned fast. -/
import Derived.Test.YtfinnljkcgglfaaDoorZiBaseJ
import Derived.Test.YtfinnljkcgglfaaDoorZdShelf
import Derived.Test.YtfinnljkcgglfaaDoorZvShelf
import Derived.Test.YtfinnljkcgglfaaDoorZv6
namespace Go.Proofs.YtfinnljkcgglfaaDoor
open Go.Vs Go.RowKit
set_option maxRecDepth 10000
set_option linter.unusedVariables false
def strsOf : List V → Option (List (List UInt8))
  | [] => some []
  | .str s :: r => match strsOf r with
    | some l => some (s :: l)
    | none => none
  | _ :: _ => none

theorem strsOf_spec : ∀ {l : List V} {ps : List (List UInt8)}, strsOf l = some ps → l = ps.map .str
  | [], ps, h => by simp only [strsOf, Option.some.injEq] at h; subst h; rfl
  | v :: r, ps, h => by
    cases v <;> simp only [strsOf] at h <;> try (cases h; done)
    split at h
    · rename_i l hl
      cases h
      rw [strsOf_spec hl]
      rfl
    · cases h

theorem flat_strs (ps : List (List UInt8)) : flat (ps.map V.str) = ps.map V.str := by
  unfold flat
  rw [List.flatMap_map]
  induction ps with
  | nil => rfl
  | cons a r ih => rw [List.flatMap_cons, ih]; rfl

def joinK : List V → Option V
  | [.int .u8 k, .nsl] => if 0 ≤ k ∧ k < 256 then some (.tup [.str (joinR (UInt8.ofNat k.toNat) []).1, .int .i64 (joinR (UInt8.ofNat k.toNat) []).2]) else none
  | [.int .u8 k, .lst _ l] => if 0 ≤ k ∧ k < 256 ∧ l.length < 100000 then (match strsOf l with
    | some ps => some (.tup [.str (joinR (UInt8.ofNat k.toNat) ps).1, .int .i64 (joinR (UInt8.ofNat k.toNat) ps).2])
    | none => none) else none
  | _ => none

def splitK : List V → Option V
  | [.str s] => if s.length < 1000000 then some (splitV s) else none
  | _ => none

def numF : Nat → Nat → List UInt8 → List UInt8
  | 0, _, l => l
  | f + 1, n, l => match Nat.beq n 0 with
    | true => l
    | false => numF f (Nat.div n 256) (UInt8.ofNat (Nat.mod n 256) :: l)

def numK : List V → Option V
  | [.int .u64 n] => if 0 ≤ n ∧ n < 18446744073709551616 then some (.str (numF 8 n.toNat [])) else none
  | _ => none

theorem numF_spec : ∀ (f n : Nat) (l : List UInt8), n < 256 ^ f → numF f n l = numB n ++ l
  | 0, n, l, h => by
    have : n = 0 := by simpa using h
    subst this
    rw [numB, dif_pos rfl]; rfl
  | f + 1, n, l, h => by
    unfold numF
    by_cases h0 : n = 0
    · subst h0
      rw [numB, dif_pos rfl]; rfl
    · rw [show Nat.beq n 0 = false by rw [← Bool.not_eq_true, Nat.beq_eq]; exact h0]
      simp only
      rw [numF_spec f _ _ (by
        show n / 256 < 256 ^ f
        rw [Nat.pow_succ] at h
        exact Nat.div_lt_of_lt_mul (by rw [Nat.mul_comm]; exact h))]
      rw [numB_pos (by omega : 0 < n)]
      simp
      rfl

theorem joinK_ok {args : List V} {v : V} (h : joinK args = some v) : PCalls DX 58 args fun r => r = .ret v := by
  have fin : ∀ (k : Int) (l : V) (ps : List (List UInt8)), 0 ≤ k → k < 256 → ps.length < 2 ^ 40 → Fz 1 l ps.length (ps.map .str) → v = .tup [.str (joinR (UInt8.ofNat k.toNat) ps).1, .int .i64 (joinR (UInt8.ofNat k.toNat) ps).2] → PCalls DX 58 [.int .u8 k, l] fun r => r = .ret v := by
    rintro k l ps h0 h1 hl hf rfl
    have := join_spec (h := []) (k := UInt8.ofNat k.toNat) hf hl (LowH.zero _)
    have e : ((UInt8.ofNat k.toNat).toNat : Int) = k := by
      rw [UInt8.toNat_ofNat']
      omega
    rw [e] at this
    exact this.mono fun r h' hr => hr
  unfold joinK at h
  split at h
  · rename_i k
    split at h
    · rename_i hk
      cases h
      exact fin k _ [] hk.1 hk.2 (by simp) (fun h => ⟨rfl, rfl, trivial⟩) rfl
    · cases h
  · rename_i k ex l
    split at h
    · rename_i hk
      split at h
      · rename_i ps hps
        cases h
        have hl := strsOf_spec hps
        subst hl
        refine fin k _ ps hk.1 hk.2.1 (by have := hk.2.2; simp at this; omega) (fun h => ?_) rfl
        have h1 : ∀ x ∈ ps.map V.str, x.cells.length = 1 := by
          intro x hx; obtain ⟨c, _, rfl⟩ := List.mem_map.1 hx; rfl
        refine ⟨?_, rfl, trivial⟩
        simp only [src]
        rw [if_pos h1, flat_strs, List.length_map]
      · cases h
    · cases h
  · cases h

theorem splitK_ok {args : List V} {v : V} (h : splitK args = some v) : PCalls DX 109 args fun r => r = .ret v := by
  unfold splitK at h
  split at h
  · split at h
    · rename_i hl
      cases h
      exact split_spec (h := []) (by omega) (LowH.zero _)
    · cases h
  · cases h

theorem numK_ok {args : List V} {v : V} (h : numK args = some v) : PCalls DX 57 args fun r => r = .ret v := by
  unfold numK at h
  split at h
  · rename_i n
    split at h
    · rename_i hl
      cases h
      obtain ⟨k, rfl⟩ : ∃ m : Nat, n = m := ⟨n.toNat, by omega⟩
      rw [Int.toNat_natCast, numF_spec 8 k [] (by omega), List.append_nil]
      exact num_spec (h := []) (by omega) (LowH.zero _)
    · cases h
  · cases h

/-- What is known of calls. -/
def known (f : FuncId) (args : List V) : Option V := match Nat.beq f 58 with
  | true => joinK args
  | false => match Nat.beq f 109 with
    | true => splitK args
    | false => match Nat.beq f 57 with
      | true => numK args
      | false => match Nat.beq f 64 with
        | true => repV args
        | false => none
theorem known_ok : ∀ g args v, known g args = some v → PCalls DX g args fun r => r = .ret v := by
  intro g args v h
  unfold known at h
  repeat' split at h
  · rename_i hb; have := Nat.eq_of_beq_eq_true hb; subst this; exact joinK_ok h
  · rename_i hb; have := Nat.eq_of_beq_eq_true hb; subst this; exact splitK_ok h
  · rename_i hb; have := Nat.eq_of_beq_eq_true hb; subst this; exact numK_ok h
  · rename_i hb; have := Nat.eq_of_beq_eq_true hb; subst this
    exact repV_spec (by kernel_rfl) (fun s c w => Go.Proofs.Tryd.strings_Repeat s c w) h
  · cases h
def CT : K.Tb := DX.T known fun _ _ _ => none
theorem CT.ok : K.TbOk DX CT := DX.tok known _ known_ok fun g args h r h' he => by cases he
/-- .. with known calls over told heaps. -/
noncomputable def CS (fs : List FuncId) (l : List K.Stp) : K.Tb := DX.T known (K.stepF fs l)
theorem CS.ok (fs : List FuncId) (l : List K.Stp) (hl : ∀ s ∈ l, s.ok DX) : K.TbOk DX (CS fs l) := DX.tok known _ known_ok (K.stepF_ok hl)
end Go.Proofs.YtfinnljkcgglfaaDoor
