/- slices.Chunk's closure: it hands over pieces. -/
import Derived.RangeFuncBox
import Derived.RangeFuncLeaves
import Derived.Shelf.Abstract
import Derived.WalkKit
import Derived.OwnWalkIn
import Derived.TacticsInMore
import Derived.LoopNIn
import Derived.LoopIn
import Derived.Test.YtfinnljkcgglfaaDoorProg
namespace Go.Proofs.YtfinnljkcgglfaaDoor
open Go Go.RowKit Go.Shelf Go.Proofs
attribute [local go_sem] Oper.semAt_some
/-- A piece. -/
def piece (b off c len k : Nat) : Value := .slice (some ⟨b, off + k * c, none⟩) (min c (len - k * c)) (min c (len - k * c))

set_option maxRecDepth 100000 in
set_option maxHeartbeats 4000000 in
theorem chunk1_in (n : Nat) (hn : 1 ≤ n) (l bs ps bn pn b off len cap c : Nat) (hc : 1 ≤ c) (hl : len ≤ cap) (hreach : len + c < 4611686018427387904) (Kp : World → World → Prop) (J Jx : Nat → World → Prop)
    (hY : ∀ (x : Nat) (W : World), J x W → x * c < len → (x = 0 ∨ (x - 1) * c < len) → YieldAt Fence.wide (n - 1) Tryd.prog l #[piece b off c len x] W fun e W' =>
      (e = .returned (.bool true) ∧ J (x + 1) W' ∧ Kp W W') ∨ (e = .returned (.bool false) ∧ Jx (x + 1) W'))
    (hJd : ∀ k W, J k W → J k W.drew)
    (hKs : ∀ W W' : World, Kp W W' → W.cell? ⟨bs, ps, none⟩ = some (.slice (some ⟨b, off, none⟩) len cap) → W'.cell? ⟨bs, ps, none⟩ = some (.slice (some ⟨b, off, none⟩) len cap))
    (hKn : ∀ W W' : World, Kp W W' → W.cell? ⟨bn, pn, none⟩ = some (.int .i64 c) → W'.cell? ⟨bn, pn, none⟩ = some (.int .i64 c))
    (W : World) (hbs : W.cell? ⟨bs, ps, none⟩ = some (.slice (some ⟨b, off, none⟩) len cap)) (hbn : W.cell? ⟨bn, pn, none⟩ = some (.int .i64 c)) (h0 : J 0 W) :
    CallsIn Fence.wide n Tryd.prog 88 #[.func (.yield l) #[] #[], .pointer (some ⟨bs, ps, none⟩), .pointer (some ⟨bn, pn, none⟩)] W fun e W' => (∃ v, e = .returned v) ∧
      ((∃ q, len ≤ q * c ∧ (q = 0 ∨ (q - 1) * c < len) ∧ J q W') ∨ (∃ q, q * c < len ∧ Jx (q + 1) W')) := by
  refine callsIn_of_wp Tryd.func88 rfl trivial ?_ rfl
  simp only [Tryd.ntmps88, List.size_toArray, List.length_cons, List.length_nil, Nat.reduceAdd, Nat.reduceSub, Array.replicate_succ, Array.replicate_zero, List.push_toArray, List.append_toArray, List.nil_append, List.cons_append]
  gi_wp2
  gi_loopw [4] (fun i wr => ∃ k : Nat, (k = 0 ∨ (k - 1) * c < len) ∧ i = .int .i64 (k * c : Nat) ∧ J k wr ∧ wr.cell? ⟨bs, ps, none⟩ = some (.slice (some ⟨b, off, none⟩) len cap) ∧ wr.cell? ⟨bn, pn, none⟩ = some (.int .i64 c))
    (fun i _ => len + c - (intOf i).toNat)
  case atStart => exact ⟨0, .inl rfl, by simp, h0, hbs, hbn⟩
  case round =>
    obtain ⟨k, hk, rfl, hJs, hcs, hcn⟩ := hrel
    by_cases hlt : k * c < len
    · obtain ⟨fn, tmps, assign, body, hy, hR⟩ := hY k wr.drew (hJd _ _ hJs) hlt hk
      have hle : k * c ≤ len := Nat.le_of_lt hlt
      have hsucc : (k + 1) * c = k * c + c := by rw [Nat.add_mul, Nat.one_mul]
      unfold piece at hy
      gi_wp2
      gi_region
      generalize hs : k * c = s at *
      generalize hm : min c (len - s) = m at *
      rw [show (if len - s < c then ((len - s : Nat) : Int) else (c : Int)) = (m : Int) from by split <;> omega]
      have h1 : s + m ≤ len := by omega
      have hcs' : wr.drew.cell? ⟨bs, ps, none⟩ = some (.slice (some ⟨b, off, none⟩) len cap) := hcs
      have hcn' : wr.drew.cell? ⟨bn, pn, none⟩ = some (.int .i64 c) := hcn
      gi_wp2
      refine hR.mono ?_
      rintro e W3 (⟨rfl, hJ3, hk3⟩ | ⟨rfl, hJx3⟩)
      · have hcs3 := hKs _ _ hk3 hcs'
        have hcn3 := hKn _ _ hk3 hcn'
        gi_wp2
        go_roundw
        case rel => exact ⟨k + 1, .inr (by rw [Nat.add_sub_cancel, hs]; exact hlt), by rw [hsucc]; simp, hJ3, hcs3, hcn3⟩
        case measure => simp [intOf]; omega
      · gi_wp2
        refine bodyPost_ret (results_none rfl _ _ _) rfl ?_
        exact ⟨⟨_, rfl⟩, .inr ⟨k, by rw [hs]; exact hlt, hJx3⟩⟩
    · gi_wp2
      go_end0
      exact ⟨⟨_, rfl⟩, .inl ⟨k, by omega, hk, hJs⟩⟩

set_option maxRecDepth 100000 in
set_option maxHeartbeats 4000000 in
/-- .. of nothing: none. -/
theorem chunk0_in (n l bs ps bn pn : Nat) (oa : Option Addr) (cap : Nat) (J : World → Prop) (W : World) (hbs : W.cell? ⟨bs, ps, none⟩ = some (.slice oa 0 cap)) (h0 : J W) :
    CallsIn Fence.wide n Tryd.prog 88 #[.func (.yield l) #[] #[], .pointer (some ⟨bs, ps, none⟩), .pointer (some ⟨bn, pn, none⟩)] W fun e W' => (∃ v, e = .returned v) ∧ J W' := by
  refine callsIn_of_wp Tryd.func88 rfl trivial ?_ rfl
  simp only [Tryd.ntmps88, List.size_toArray, List.length_cons, List.length_nil, Nat.reduceAdd, Nat.reduceSub, Array.replicate_succ, Array.replicate_zero, List.push_toArray, List.append_toArray, List.nil_append, List.cons_append]
  gi_wp2
  gi_loopw [4] (fun i wr => i = .int .i64 0 ∧ J wr ∧ wr.cell? ⟨bs, ps, none⟩ = some (.slice oa 0 cap)) (fun _ _ => 0)
  case atStart => exact ⟨rfl, h0, hbs⟩
  case round =>
    obtain ⟨rfl, hJs, hcs⟩ := hrel
    gi_wp2
    go_end0
    exact ⟨⟨_, rfl⟩, hJs⟩
end Go.Proofs.YtfinnljkcgglfaaDoor
