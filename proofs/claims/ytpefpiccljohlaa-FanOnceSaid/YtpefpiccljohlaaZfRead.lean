/- What package codec reads. -/
import Derived.Test.YtpefpiccljohlaaZfPay
namespace Go.Proofs.Ytpefpiccljohlaa
open Go.Vs Go.RowKit
set_option linter.unusedSimpArgs false
set_option linter.unusedVariables false

/-- The panic of a text that has not its form. -/
def formP : V := .ifc 26 (.int .i64 4)

theorem need_spec {h : Hp} {b : Bool} : ACalls FX 49 [.bool b] h (fun r h' => h' = h ∧ r = (if b then .ret (.tup []) else .pan formP)) := by
  refine acall FX.ok ck49 rfl ?_
  cases b <;> simp [F49, unV, panV, formP]

/-- A reader in block β: what is left to be read. -/
def Rd (h : Hp) (β : Nat) (s : List UInt8) : Prop := ∃ ty, hget h β = some (.cells [.str s] ty)

set_option maxHeartbeats 1000000 in
theorem take_spec {h : Hp} {β n : Nat} {s : List UInt8} (H : Rd h β s) (hn : s.length < 2 ^ 62) :
    ACalls FX 51 [.ptr β 0, .int .i64 n] h (fun r h' => if n ≤ s.length then r = .ret (.str (s.take n)) ∧ (∃ ty, hget h β = some (.cells [.str s] ty) ∧ h' = h.set β (some (.cells [.str (s.drop n)] ty))) else r = .pan formP ∧ h' = h) := by
  refine acall FX.ok ck51 rfl ?_
  obtain ⟨ty, hg⟩ := H
  simp [F51, nilV, fadV, rd, hg, sub, asV]
  refine need_spec.mono ?_
  rintro r h1 ⟨rfl, rfl⟩
  by_cases hle : n ≤ s.length
  · have : (n : Int) ≤ s.length := by omega
    simp [hle, nilV, fadV, rd, hg, sub, asV, slcV, V.isStr, upTo, stV, wr, V.cells, V.one, setAll]
  · have : ¬ (n : Int) ≤ s.length := by omega
    simp [hle]


theorem wrapByte (c : UInt8) : IntKind.i64.wrap (c.toNat : Int) = c.toNat := by
  have := c.toNat_lt
  rw [wrap64 (by omega) (by omega)]

set_option maxHeartbeats 1000000 in
theorem byte_spec {h : Hp} {β : Nat} {s : List UInt8} (H : Rd h β s) (hn : s.length < 2 ^ 62) :
    ACalls FX 50 [.ptr β 0] h (fun r h' => match s with
      | c :: q => r = .ret (.int .i64 c.toNat) ∧ (∃ ty, hget h β = some (.cells [.str s] ty) ∧ h' = h.set β (some (.cells [.str q] ty)))
      | [] => r = .pan formP ∧ h' = h) := by
  refine acall FX.ok ck50 rfl ?_
  simp [F50]
  refine (take_spec (n := 1) H hn).mono ?_
  rintro r h1 hr
  cases s with
  | nil =>
    simp at hr
    obtain ⟨rfl, rfl⟩ := hr
    simp
  | cons c q =>
    simp at hr
    obtain ⟨rfl, ty, hg, rfl⟩ := hr
    simp [idxsV, cviV, wrapByte, hg]


set_option maxHeartbeats 1000000 in
theorem caught_none {h : Hp} {β : Nat} {R : Bool → Hp → Prop} (hR : R false h) : ACallsD FX 48 [.ptr β 0] h none R := by
  refine acallsD_of FX.ok ck48 rfl ?_
  simp [F48, vcS, vopsS, vopS, wanted, msOf, postS, MS.was, veq, hR]

set_option maxHeartbeats 1000000 in
theorem caught_some {h : Hp} {β : Nat} {c : V} {ty : Option TypeId} {R : Bool → Hp → Prop} (hg : hget h β = some (.cells [c] ty)) (hR : R true (h.set β (some (.cells [.int .i64 4] ty)))) : ACallsD FX 48 [.ptr β 0] h (some formP) R := by
  refine acallsD_of FX.ok ck48 rfl ?_
  simp [F48, vcS, vopsS, vopS, wanted, msOf, postS, MS.was, veq, formP, asrtV, extV, nilV, stV, wr, hg, V.cells, V.one, setAll, hR]


/-- So many texts, each behind its length; and what is left. -/
def readParts : Nat → List UInt8 → Option (List (List UInt8) × List UInt8)
  | 0, s => some ([], s)
  | n + 1, a :: b :: r => if a.toNat * 256 + b.toNat ≤ 4000 ∧ a.toNat * 256 + b.toNat ≤ r.length then (readParts n (r.drop (a.toNat * 256 + b.toNat))).map fun x => (r.take (a.toNat * 256 + b.toNat) :: x.1, x.2) else none
  | _ + 1, _ => none

/-- The kind and the texts of one. -/
def readB (s : List UInt8) : Option (UInt8 × List (List UInt8)) := if s.length ≤ 30000 then (match s with
  | v :: k :: n :: r => if v = 1 then (match readParts n.toNat r with
    | some (l, []) => some (k, l)
    | _ => none) else none
  | _ => none) else none

end Go.Proofs.Ytpefpiccljohlaa
