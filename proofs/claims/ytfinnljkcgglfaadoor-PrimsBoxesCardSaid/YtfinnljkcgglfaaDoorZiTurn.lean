/- sha.turned, reckoned at once. -/
import Derived.Test.YtfinnljkcgglfaaDoorZiKnown
import Derived.KernelRfl
namespace Go.Proofs.YtfinnljkcgglfaaDoor
open Go Go.Vs
set_option maxRecDepth 100000

theorem pure_eq {x : X} (hx : XOk x) (hl : XLow x) {T : K.Tb} (hT : K.TbOk x T) {n : Nat} {f : FuncId} {args : List V} {r : Res}
    (h : (match K.evF x T n f args K.HT.nil with | some p => some (p.1, Nat.beq p.2.n 0) | none => none) = some (r, true)) : PCalls x f args fun a => a = r := by
  cases he : K.evF x T n f args K.HT.nil with
  | none => rw [he] at h; cases h
  | some p =>
    rw [he] at h
    simp only [Option.some.injEq, Prod.mk.injEq] at h
    obtain ⟨h1, h2⟩ := h
    have := K.evF_pure hx hl hT (r := p.1) (h := p.2) he (K.nbeq h2)
    exact this.mono fun a b hab => ⟨by rw [hab.1, h1], hab.2⟩

def rotE (x : Int) (a : Nat) : Int := IntKind.u32.wrap ((BitVec.ofInt 32 (IntKind.u32.wrap (x * 2 ^ (32 - a))) ||| BitVec.ofInt 32 (x.fdiv (2 ^ a))).toNat : Nat)
def xorE (a b : Int) : Int := IntKind.u32.wrap ((BitVec.ofInt 32 a ^^^ BitVec.ofInt 32 b).toNat : Nat)
def turnE17_19 (x : Int) : Int := (xorE (xorE 0 (rotE x 17)) (rotE x 19))
theorem turned17_19 (x : Int) : PCalls DX 32 [.int .u32 x, .lst true [.int .i64 17, .int .i64 19]] fun r => r = .ret (.int .u32 (turnE17_19 x)) :=
  pure_eq DX.ok DX.low CT.ok (n := 1000) (by kernel_rfl)
def turnE7_18 (x : Int) : Int := (xorE (xorE 0 (rotE x 7)) (rotE x 18))
theorem turned7_18 (x : Int) : PCalls DX 32 [.int .u32 x, .lst true [.int .i64 7, .int .i64 18]] fun r => r = .ret (.int .u32 (turnE7_18 x)) :=
  pure_eq DX.ok DX.low CT.ok (n := 1000) (by kernel_rfl)
def turnE6_11_25 (x : Int) : Int := (xorE (xorE (xorE 0 (rotE x 6)) (rotE x 11)) (rotE x 25))
theorem turned6_11_25 (x : Int) : PCalls DX 32 [.int .u32 x, .lst true [.int .i64 6, .int .i64 11, .int .i64 25]] fun r => r = .ret (.int .u32 (turnE6_11_25 x)) :=
  pure_eq DX.ok DX.low CT.ok (n := 1000) (by kernel_rfl)
def turnE2_13_22 (x : Int) : Int := (xorE (xorE (xorE 0 (rotE x 2)) (rotE x 13)) (rotE x 22))
theorem turned2_13_22 (x : Int) : PCalls DX 32 [.int .u32 x, .lst true [.int .i64 2, .int .i64 13, .int .i64 22]] fun r => r = .ret (.int .u32 (turnE2_13_22 x)) :=
  pure_eq DX.ok DX.low CT.ok (n := 1000) (by kernel_rfl)
def isI (a : Int) (v : V) : Bool := match v with
  | .int .i64 b => decide (b = a)
  | _ => false
def turnK : List V → Option V
  | [.int .u32 x, .lst true [a, b]] => match isI 17 a && isI 19 b with
    | true => some (.int .u32 (turnE17_19 x))
    | false => match isI 7 a && isI 18 b with
      | true => some (.int .u32 (turnE7_18 x))
      | false => none
  | [.int .u32 x, .lst true [a, b, c]] => match isI 6 a && isI 11 b && isI 25 c with
    | true => some (.int .u32 (turnE6_11_25 x))
    | false => match isI 2 a && isI 13 b && isI 22 c with
      | true => some (.int .u32 (turnE2_13_22 x))
      | false => none
  | _ => none
theorem isI_eq {a : Int} {v : V} (h : isI a v = true) : v = .int .i64 a := by
  unfold isI at h
  split at h
  · rw [of_decide_eq_true h]
  · cases h
theorem turnK_ok {args : List V} {v : V} (h : turnK args = some v) : PCalls DX 32 args fun r => r = .ret v := by
  unfold turnK at h
  split at h
  · split at h
    · rename_i hb; cases h
      simp only [Bool.and_eq_true] at hb
      rw [isI_eq hb.1, isI_eq hb.2]; exact turned17_19 _
    · split at h
      · rename_i hb; cases h
        simp only [Bool.and_eq_true] at hb
        rw [isI_eq hb.1, isI_eq hb.2]; exact turned7_18 _
      · cases h
  · split at h
    · rename_i hb; cases h
      simp only [Bool.and_eq_true] at hb
      rw [isI_eq hb.1.1, isI_eq hb.1.2, isI_eq hb.2]; exact turned6_11_25 _
    · split at h
      · rename_i hb; cases h
        simp only [Bool.and_eq_true] at hb
        rw [isI_eq hb.1.1, isI_eq hb.1.2, isI_eq hb.2]; exact turned2_13_22 _
      · cases h
  · cases h
def knownT (f : FuncId) (args : List V) : Option V := match Nat.beq f 32 with
  | true => turnK args
  | false => known f args
theorem knownT_ok : ∀ g args v, knownT g args = some v → PCalls DX g args fun r => r = .ret v := by
  intro g args v h
  unfold knownT at h
  split at h
  · rename_i hb; have := Nat.eq_of_beq_eq_true hb; subst this; exact turnK_ok h
  · exact known_ok g args v h
def CTT : K.Tb := DX.T knownT fun _ _ _ => none
theorem CTT.ok : K.TbOk DX CTT := DX.tok knownT _ knownT_ok fun g args h r h' he => by cases he
end Go.Proofs.YtfinnljkcgglfaaDoor
