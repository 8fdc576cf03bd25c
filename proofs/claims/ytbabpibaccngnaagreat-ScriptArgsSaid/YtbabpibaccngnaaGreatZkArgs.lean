/- A law's bytes. -/
import Derived.Test.YtbabpibaccngnaaGreatZkCuts
namespace Go.Proofs.YtbabpibaccngnaaGreat
open Go Go.Vs Go.RowKit
theorem has_bytes {x : V} (h : HasA (.sl (.int .u8) false) x) : ∃ s, BytesV x s ∧ s.length ≤ 9223372036854775807 := by
  obtain ⟨h1, h2'⟩ := h
  have h2 : x.cells = [x] := h2'
  rw [h2] at h1
  rcases h1 with h1 | ⟨l, h1, hl, hel⟩
  · injection h1 with h1 _
    subst h1
    exact ⟨[], .inl ⟨rfl, rfl⟩, by simp⟩
  · injection h1 with h1 _
    subst h1
    have : ∀ l : List V, (∀ x ∈ l, (if false = true then x = .agg x.cells else x.cells = [x]) ∧ x.cells.length = Ty.size (.int .u8) ∧ Has (.int .u8) x.cells) → ∃ s, l = bytesV s := by
      intro l
      induction l with
      | nil => exact fun _ => ⟨[], rfl⟩
      | cons y r ih =>
        intro hy
        obtain ⟨s, rfl⟩ := ih fun x hx => hy x (List.mem_cons_of_mem _ hx)
        obtain ⟨q1, _, n, q2, q3, q4⟩ := hy y (List.mem_cons_self ..)
        have q1 : y.cells = [y] := q1
        rw [q1] at q2
        injection q2 with q2 _
        subst q2
        have q3 : (0 : Int) ≤ n := q3
        have q4 : n ≤ 255 := q4
        refine ⟨UInt8.ofNat n.toNat :: s, ?_⟩
        show _ = V.int .u8 _ :: bytesV s
        congr 2
        rw [UInt8.toNat_ofNat']
        omega
    obtain ⟨s, rfl⟩ := this l hel
    refine ⟨s, .inr ⟨false, rfl⟩, ?_⟩
    have : (bytesV s).length = s.length := by simp [bytesV]
    rw [this] at hl
    exact hl
end Go.Proofs.YtbabpibaccngnaaGreat
