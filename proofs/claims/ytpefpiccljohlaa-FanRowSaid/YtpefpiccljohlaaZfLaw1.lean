/- The laws on groups and on what is taken, over plain data (1). -/
import Derived.Test.YtpefpiccljohlaaZfTake2
namespace Go.Proofs.Ytpefpiccljohlaa
open Go.Vs Go.RowKit
set_option linter.unusedSimpArgs false
set_option linter.unusedVariables false

/-! ### What was joined is read -/
theorem cut_parts : ∀ (l : List (List UInt8)) (q : List UInt8), (∀ p ∈ l, p.length ≤ 4000) → cut l.length (l.flatMap part ++ q) = some (l, q)
  | [], q, _ => rfl
  | p :: r, q, h => by
    have hp := h p (by simp)
    have ih := cut_parts r q fun x hx => h x (by simp [hx])
    have e : (UInt8.ofNat (p.length / 256)).toNat * 256 + (UInt8.ofNat (p.length % 256)).toNat = p.length := by
      rw [UInt8.toNat_ofNat', UInt8.toNat_ofNat']; omega
    simp only [List.length_cons, List.flatMap_cons, part, List.cons_append, List.append_assoc, cut, e]
    rw [if_pos (by simp)]
    rw [List.drop_left', List.take_left', ih]
    · rfl
    · rfl
    · rfl

theorem readB_joinB {k : UInt8} {l : List (List UInt8)} (h1 : l.length ≤ 255) (h2 : ∀ p ∈ l, p.length ≤ 4000) (h3 : (joinB k l).length ≤ 30000) : readB (joinB k l) = some (k, l) := by
  rw [← refSplitB_eq]
  have hl : (UInt8.ofNat l.length).toNat = l.length := by rw [UInt8.toNat_ofNat']; omega
  have hc := cut_parts l [] h2
  rw [List.append_nil] at hc
  have hany : l.any (fun s => 4000 < s.length) = false := by
    rw [List.any_eq_false]; intro p hp; have := h2 p hp; simp; omega
  have hj : joinR k l = (joinB k l, 0) := by
    unfold joinR
    rw [if_neg (by omega), hany, if_neg (by simp), if_neg (by omega)]
  simp only [refSplitB, joinB, hl, hc]
  exact if_pos (by rw [hj]; exact ⟨rfl, rfl⟩)

theorem joinR_pay {n : Nat} {s : List UInt8} (hn : n < 18446744073709551616) (hs : s.length ≤ 4000) : joinR 70 [numB n, s] = (joinB 70 [numB n, s], 0) := by
  have hl : (numB n).length ≤ 8 := numB_len 8 (by simpa using hn)
  have h30 : ¬ 30000 < (joinB 70 [numB n, s]).length := by simp [joinB, part]; omega
  unfold joinR
  rw [if_neg (by simp), if_neg (by simp; omega), if_neg h30]

theorem takeB_pay {n : Nat} {s : List UInt8} (hn : n < 18446744073709551616) (hs : s.length ≤ 4000) : takeB (joinB 70 [numB n, s]) 70 2 = some [numB n, s] := by
  have hl : (numB n).length ≤ 8 := numB_len 8 (by simpa using hn)
  unfold takeB
  rw [readB_joinB (by simp) (by simp; omega) (by simp [joinB, part]; omega)]
  rfl

theorem numOf_numB (n : Nat) : numOf (numB n) = n := by
  induction n using Nat.strongRecOn with
  | _ n ih =>
    rcases Nat.eq_zero_or_pos n with rfl | hpos
    · simp [numB, numOf]
    · rw [numB_pos hpos, numOf_snoc, ih (n / 256) (by omega), UInt8.toNat_ofNat']
      omega

theorem readN_numB {n : Nat} (hn : n < 18446744073709551616) : readN (numB n) = some n := by
  have hl : (numB n).length ≤ 8 := numB_len 8 (by simpa using hn)
  unfold readN
  rw [if_pos ⟨hl, numB_head n⟩, numOf_numB]

theorem takeF_pay {ms : List Mk} {fr : List UInt8} {n : Nat} {s : List UInt8} (hn : n < 18446744073709551616) (hs : s.length ≤ 4000) :
    takeF ms fr (joinB 70 [numB n, s]) = if (fr, n) ∈ ms then (ms, 0, [], 10) else ((ms ++ [(fr, n)]).drop (ms.length + 1 - 100), n, s, 0) := by
  unfold takeF
  rw [takeB_pay hn hs]
  simp only [List.getElem?_cons_zero, Option.getD_some, readN_numB hn, List.getElem?_cons_succ]

theorem joinB_pay_len {n : Nat} {s : List UInt8} (hn : n < 18446744073709551616) : (joinB 70 [numB n, s]).length ≤ s.length + 15 := by
  have hl : (numB n).length ≤ 8 := numB_len 8 (by simpa using hn)
  simp [joinB, part]; omega

/-! ### The calls on plain data -/
def LRes (x : List (List UInt8) × Int) : Res → Prop := fun r => ∃ v, r = .ret (.tup [v, .int .i64 x.2]) ∧ Fz 1 v x.1.length (x.1.map .str)

theorem LR.res {f : FuncId} {args : List V} {x : List (List UInt8) × Int} (H : ACalls FX f args [] (LR x.1 x.2 [])) (ha : ∀ a ∈ args, Low 0 a) (h : Hp) : ACalls FX f args h (fun r h' => LRes x r ∧ h' = h) :=
  PCalls.at FX.low (H.mono fun r h' hr => ⟨hr.2, hr.1⟩) ha h

section
variable {g : V} {ps : List (List UInt8)} {p : List UInt8} (H : Fz 1 g ps.length (ps.map .str)) (hn : ps.length ≤ 2 ^ 40) (h : Hp)
include H hn
theorem addP : ACalls FX 10 [g, .str p] h (fun r h' => LRes (addL ps p) r ∧ h' = h) := LR.res (fanAdd_spec (H _) hn (LowH.zero _)) (low2 (H.low str_low) (.str _)) h
theorem refAddP : ACalls FX 11 [g, .str p] h (fun r h' => LRes (addL ps p) r ∧ h' = h) := LR.res (refAdd_spec H hn (LowH.zero _)) (low2 (H.low str_low) (.str _)) h
theorem removeP : ACalls FX 12 [g, .str p] h (fun r h' => LRes (remL ps p) r ∧ h' = h) := LR.res (fanRemove_spec (H _) hn (LowH.zero _)) (low2 (H.low str_low) (.str _)) h
theorem refRemoveP : ACalls FX 13 [g, .str p] h (fun r h' => LRes (remL ps p) r ∧ h' = h) := LR.res (refRemove_spec H hn (LowH.zero _)) (low2 (H.low str_low) (.str _)) h
end

theorem payP {n : Nat} {s : List UInt8} (hn : n < 18446744073709551616) (h : Hp) : ACalls FX 18 [.int .u64 n, .str s] h (fun r h' => r = .ret (.tup [.str (joinR 70 [numB n, s]).1, .int .i64 (joinR 70 [numB n, s]).2]) ∧ h' = h) :=
  PCalls.at FX.low (P := fun r => r = .ret (.tup [.str (joinR 70 [numB n, s]).1, .int .i64 (joinR 70 [numB n, s]).2])) (payload_spec hn (LowH.zero _)) (low2 (.int _ _) (.str _)) h

section
variable {s : V} {ms : List Mk} {fr pl : List UInt8} (H : Fz 2 s ms.length (mks ms)) (hn : ms.length < 2 ^ 40) (hp : pl.length < 2 ^ 40) (h : Hp)
include H hn
theorem theirsP : ACalls FX 16 [s] h (fun r h' => SameM ms r ∧ h' = h) := PCalls.at FX.low (theirs_spec H hn (LowH.zero _)) (low1 (H.low mks_low)) h
theorem oursP : ACalls FX 21 [s] h (fun r h' => SameM ms r ∧ h' = h) := PCalls.at FX.low (ours_spec H hn (LowH.zero _)) (low1 (H.low mks_low)) h
include hp
theorem takeP : ACalls FX 15 [s, .str fr, .str pl] h (fun r h' => TakeM (takeF ms fr pl) r ∧ h' = h) := PCalls.at FX.low (fanTake_spec H hn hp) (low3 (H.low mks_low) (.str _) (.str _)) h
theorem refTakeP : ACalls FX 17 [s, .str fr, .str pl] h (fun r h' => TakeM (takeF ms fr pl) r ∧ h' = h) := PCalls.at FX.low (refTake_spec H hn hp) (low3 (H.low mks_low) (.str _) (.str _)) h
end

theorem Fz.nil1 : Fz 1 .nsl ([] : List (List UInt8)).length (([] : List (List UInt8)).map .str) := fun h => ⟨rfl, rfl, trivial⟩
theorem Fz.nil2 : Fz 2 .nsl ([] : List Mk).length (mks []) := fun h => ⟨rfl, rfl, trivial⟩

set_option maxHeartbeats 4000000 in
theorem alive_spec : PCalls FX 8 [] (fun r => r = .ret (.bool true)) := by
  refine acall FX.ok ck8 rfl ?_
  simp [F8]
  refine (addP (p := [97]) Fz.nil1 (by simp) _).mono ?_
  rintro r h ⟨⟨v, rfl, hv⟩, rfl⟩
  have e1 : addL [] [97] = ([[97]], 0) := by decide
  rw [e1] at hv ⊢
  simp [extV]
  refine (addP (p := [98]) hv (by simp) _).mono ?_
  rintro r h ⟨⟨v2, rfl, hv2⟩, rfl⟩
  have e2 : addL [[97]] [98] = ([[97], [98]], 0) := by decide
  rw [e2] at hv2 ⊢
  simp [extV]
  refine (removeP (p := [97]) hv2 (by simp) _).mono ?_
  rintro r h ⟨⟨v3, rfl, hv3⟩, rfl⟩
  have e3 : remL [[97], [98]] [97] = ([[98]], 0) := by decide
  rw [e3] at hv3 ⊢
  simp [extV]
  refine (payP (n := 300) (s := [116, 101, 120, 116]) (by omega) _).mono ?_
  rintro r h ⟨rfl, rfl⟩
  rw [joinR_pay (by omega) (by simp)]
  simp [extV]
  have hjl := joinB_pay_len (n := 300) (s := [116, 101, 120, 116]) (by omega)
  simp only [List.length_cons, List.length_nil] at hjl
  refine (takeP (fr := [97]) (pl := joinB 70 [numB 300, [116, 101, 120, 116]]) Fz.nil2 (by simp) (by omega) _).mono ?_
  rintro r h ⟨⟨v4, rfl, hv4⟩, rfl⟩
  have e4 : takeF [] [97] (joinB 70 [numB 300, [116, 101, 120, 116]]) = ([([97], 300)], 300, [116, 101, 120, 116], 0) := by rw [takeF_pay (by omega) (by simp)]; rfl
  rw [e4] at hv4 ⊢
  simp [extV]
  refine (takeP (fr := [97]) (pl := joinB 70 [numB 300, [116, 101, 120, 116]]) hv4 (by simp) (by omega) _).mono ?_
  rintro r h ⟨⟨v5, rfl, hv5⟩, rfl⟩
  have e5 : takeF [([97], 300)] [97] (joinB 70 [numB 300, [116, 101, 120, 116]]) = ([([97], 300)], 0, [], 10) := by rw [takeF_pay (by omega) (by simp)]; rfl
  rw [e5] at hv5 ⊢
  have hs : Fz 1 (.lst true [.str [98]]) [[98]].length ([[98]].map .str) := fun h => ⟨by simp [src, flat, V.cells], rfl, trivial⟩
  have hl4 := (hv4 []).len
  simp [extV, wanted, fillV, V.cells, V.one, setAll, chunk]
  refine (same_spec (hv3 _) (hs _) (by simp) (by simp)).mono ?_
  rintro r h ⟨rfl, rfl⟩
  simp [wanted, strBin, hl4]

end Go.Proofs.Ytpefpiccljohlaa
