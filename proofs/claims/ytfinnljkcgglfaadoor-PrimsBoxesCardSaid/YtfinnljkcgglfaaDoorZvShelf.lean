/- Contracts of the kit's shelf as calls on plain data. -/
import Derived.Test.YtfinnljkcgglfaaDoorZv6
import Derived.Lib.Repeat
namespace Go.Vs
open Go.RowKit

/-- A call that leaves what was there as it was, and hands a value that speaks of no block. -/
theorem PCalls.of_below {x : X} {f : FuncId} {args : List V} {v : V} {u : Value} (hc : callable x.P f = true) (hv : ∀ E, VR E v u)
    (H : ∀ (E : Env) (w : World) (vs : Array Value), VRs E args vs → Calls x.P f vs w fun e w' => e = .returned u ∧ Below w.heap.size w w') : PCalls x f args fun r => r = .ret v := by
  refine ⟨hc, fun w0 E w vs hs hg hvs => (H E w vs hvs).mono ?_⟩
  rintro e w' ⟨rfl, hb⟩
  exact ⟨E, [], .ret v, Le.refl E, hs.of_blocks hb, hv E, rfl, rfl⟩

theorem vrs_two {E : Env} {a b : V} {vs : Array Value} (h : VRs E [a, b] vs) : ∃ u v, vs = #[u, v] ∧ VR E a u ∧ VR E b v := by
  obtain ⟨h1, h2⟩ := h
  match vs, h1 with
  | ⟨[u, v]⟩, _ => exact ⟨u, v, rfl, h2 0 a u rfl rfl, h2 1 b v rfl rfl⟩

/-- strings.Repeat, as it is known. -/
def repV : List V → Option V
  | [.str s, .int .i64 c] => if 0 ≤ c ∧ c ≤ 1000000 ∧ s.length ≤ 100000 then some (.str (Lib.repeatL s c.toNat)) else none
  | _ => none

theorem repV_spec {x : X} {f : FuncId} (hc : callable x.P f = true)
    (H : ∀ (s : ByteArray) (c : Nat) (w : World), c ≤ 9223372036854775807 → s.size * c ≤ 140737488355328 → Calls x.P f #[.string s, .int .i64 c] w fun e w' => e = .returned (.string ⟨(Lib.repeatL s.data.toList c).toArray⟩) ∧ Below w.heap.size w w')
    {args : List V} {v : V} (h : repV args = some v) : PCalls x f args fun r => r = .ret v := by
  unfold repV at h
  split at h
  · rename_i s c
    split at h
    · rename_i hb
      cases h
      obtain ⟨h0, h1, h2⟩ := hb
      refine PCalls.of_below hc (fun E => .str _) fun E w vs hvs => ?_
      obtain ⟨u, u2, rfl, v1, v2⟩ := vrs_two hvs
      cases v1
      cases v2
      obtain ⟨n, rfl⟩ : ∃ n : Nat, c = n := ⟨c.toNat, by omega⟩
      simp only [Int.toNat_natCast]
      refine H ⟨s.toArray⟩ n w (by omega) ?_
      have e : (⟨s.toArray⟩ : ByteArray).size = s.length := rfl
      rw [e]
      calc s.length * n ≤ 100000 * 1000000 := Nat.mul_le_mul h2 (by omega)
        _ ≤ 140737488355328 := by decide
    · cases h
  · cases h
end Go.Vs
