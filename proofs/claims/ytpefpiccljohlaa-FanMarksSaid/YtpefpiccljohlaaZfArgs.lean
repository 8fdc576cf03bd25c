/- The laws' arguments, as plain data. -/
import Derived.Test.YtpefpiccljohlaaZfLaw2
import Derived.Test.YtpefpiccljohlaaZvLaw
namespace Go.Proofs.Ytpefpiccljohlaa
open Go.Vs Go.RowKit
set_option linter.unusedSimpArgs false
set_option linter.unusedVariables false

abbrev TyS : Ty := .sl .str false
abbrev TyM : Ty := .sl (.agg [.str, .int .u64]) true

theorem maxLen_lt {n : Nat} (h : n ≤ maxLen) : n < 9223372036854775808 := by unfold maxLen at h; omega

theorem has_str {x : V} (h : HasA .str x) : ∃ s, x = .str s ∧ s.length < 9223372036854775808 := by
  obtain ⟨⟨s, h1, h2⟩, h3⟩ := h
  have h3 : x.cells = [x] := h3
  rw [h3] at h1
  exact ⟨s, by injection h1, maxLen_lt h2⟩

theorem has_strs {x : V} (h : HasA TyS x) : ∃ ps : List (List UInt8), Fz 1 x ps.length (ps.map .str) ∧ ps.length < 9223372036854775808 := by
  obtain ⟨h1, h2'⟩ := h
  have h2 : x.cells = [x] := h2'
  clear h2'
  rw [h2] at h1
  rcases h1 with h1 | ⟨l, h1, hl, hel⟩
  · injection h1 with h1 _
    subst h1
    exact ⟨[], fun h => ⟨rfl, rfl, trivial⟩, by simp⟩
  · injection h1 with h1 _
    subst h1
    have : ∃ ps : List (List UInt8), l = ps.map .str := by
      clear hl h2
      induction l with
      | nil => exact ⟨[], rfl⟩
      | cons y r ih =>
        obtain ⟨ps, hps⟩ := ih fun z hz => hel z (by simp [hz])
        obtain ⟨h3, _, s, h4, _⟩ := hel y (by simp)
        rw [if_neg (by decide)] at h3
        rw [h3] at h4
        injection h4 with h4 _
        exact ⟨s :: ps, by rw [hps, h4]; rfl⟩
    obtain ⟨ps, rfl⟩ := this
    refine ⟨ps, fun h => ⟨?_, rfl, trivial⟩, by have := maxLen_lt hl; simpa using this⟩
    simp only [src]
    rw [if_pos fun y hy => by obtain ⟨p, _, rfl⟩ := List.mem_map.1 hy; rfl]
    simp only [List.length_map, flat, List.flatMap_map]
    congr 2
    clear hl hel h2
    induction ps with
    | nil => rfl
    | cons p r ih => rw [List.flatMap_cons, List.map_cons, ih]; rfl

theorem has_marks {x : V} (h : HasA TyM x) : ∃ ms : List Mk, Fz 2 x ms.length (mks ms) ∧ ms.length < 9223372036854775808 ∧ ∀ m ∈ ms, m.2 < 18446744073709551616 := by
  obtain ⟨h1, h2'⟩ := h
  have h2 : x.cells = [x] := h2'
  clear h2'
  rw [h2] at h1
  rcases h1 with h1 | ⟨l, h1, hl, hel⟩
  · injection h1 with h1 _
    subst h1
    exact ⟨[], fun h => ⟨rfl, rfl, trivial⟩, by simp, by simp⟩
  · injection h1 with h1 _
    subst h1
    have : ∃ ms : List Mk, l = ms.map mkV ∧ ∀ m ∈ ms, m.2 < 18446744073709551616 := by
      clear hl h2
      induction l with
      | nil => exact ⟨[], rfl, by simp⟩
      | cons y r ih =>
        obtain ⟨ms, hms, hb⟩ := ih fun z hz => hel z (by simp [hz])
        obtain ⟨h3, _, a, b, h4, _, ⟨s, rfl, _⟩, c, d, rfl, _, ⟨n, rfl, hn0, hn1⟩, rfl⟩ := hel y (by simp)
        rw [if_pos rfl, h4] at h3
        obtain ⟨k, rfl⟩ := Int.eq_ofNat_of_zero_le hn0
        refine ⟨(s, k) :: ms, by rw [hms, h3]; rfl, fun m hm => ?_⟩
        rcases List.mem_cons.1 hm with rfl | hm
        · have : (k : Int) ≤ 18446744073709551615 := hn1
          show k < _
          omega
        · exact hb m hm
    obtain ⟨ms, rfl, hb⟩ := this
    refine ⟨ms, fun h => ⟨?_, rfl, trivial⟩, by have := maxLen_lt hl; simpa using this, hb⟩
    simp only [src]
    rw [if_pos fun y hy => by obtain ⟨p, _, rfl⟩ := List.mem_map.1 hy; rfl]
    simp only [List.length_map, flat, List.flatMap_map]
    congr 2

abbrev TyMk : Ty := .agg [.str, .int .u64]
theorem has_mark {x : V} (h : HasA TyMk x) : ∃ m : Mk, x = mkV m ∧ m.2 < 18446744073709551616 := by
  obtain ⟨⟨a, b, h4, _, ⟨s, rfl, _⟩, c, d, rfl, _, ⟨n, rfl, hn0, hn1⟩, rfl⟩, h3⟩ := h
  have h3 : x = .agg x.cells := h3
  rw [h4] at h3
  obtain ⟨k, rfl⟩ := Int.eq_ofNat_of_zero_le hn0
  have : (k : Int) ≤ 18446744073709551615 := hn1
  exact ⟨(s, k), h3, by show k < _; omega⟩

theorem FX.gr (W : World) : GR FX (frzE W) := fun g => .fp [] 0 g 0 (fun _ => .pointer none) (fun j hj => by simp [FX] at hj) (fun j hj => by simp [FX] at hj) (fun j hj => by simp [FX] at hj)

end Go.Proofs.Ytpefpiccljohlaa
