/- What strings.Builder's methods come to. -/
import Derived.Test.YtpefpiccljohlaaZfBase
namespace Go.Proofs.Ytpefpiccljohlaa
open Go.Vs Go.RowKit
set_option linter.unusedSimpArgs false
set_option linter.unusedVariables false

set_option maxHeartbeats 1000000 in
theorem copyCheck_spec {h : Hp} {k β n : Nat} {ys : List V} (hk : k ≤ h.length) (H : Bld h k 81 5 β n ys) :
    ACalls FX 47 [.ptr β 0] h (fun r h' => r = .ret (.tup []) ∧ Bld h' k 81 5 β n ys ∧ Frm k h h' ∧ h'.length = h.length) := by
  obtain ⟨a, buf, hb, hg, ha, ho, hne, hlt⟩ := H
  refine acall FX.ok ck47 rfl ?_
  have hbl := hget_lt hg
  rcases ha with rfl | rfl
  · simp [F47, nilV, fadV, rd, hg, sub, asV, veq, toUV, frUV, stV, wr, V.cells, V.one, setAll]
    refine ⟨⟨.ptr β 0, buf, hb, by rw [hget_set hbl], .inr rfl, ho.keep fun b hbb => hget_set_ne (fun e => hne (by rw [hbb, e])) _, hne, fun b hbb => by simp; exact hlt b hbb⟩, Frm.set hk hb _⟩
  · simp [F47, nilV, fadV, rd, hg, sub, asV, veq, pneV]
    exact ⟨⟨.ptr β 0, buf, hb, hg, .inr rfl, ho, hne, hlt⟩, Frm.refl hk⟩

/-- What a builder's writing leaves. -/
def Wrote (h : Hp) (k β n : Nat) (ys : List V) (m : Nat) : Res → Hp → Prop := fun r h' => r = .ret (.tup [.int .i64 m, .nifc]) ∧ Bld h' k 81 5 β n ys ∧ Frm k h h' ∧ h.length ≤ h'.length

set_option maxHeartbeats 1000000 in
theorem write_spec {h : Hp} {k β n m : Nat} {ys zs : List V} {s : V} (hk : k ≤ h.length) (H : Bld h k 81 5 β n ys) (hs : Fz 1 s m zs) (hr : n + m ≤ room) :
    ACalls FX 41 [.ptr β 0, s] h (Wrote h k β (n + m) (ys ++ zs) m) := by
  refine acall FX.ok ck41 rfl ?_
  simp [F41]
  refine (copyCheck_spec hk H).mono ?_
  rintro r h1 ⟨rfl, ⟨a, buf, hb, hg, ha, ho, hne, hlt⟩, hf, hln⟩
  have hbl := hget_lt hg
  obtain ⟨v', h2, a1, a2, a3, a4, a5, a6⟩ := OwnT.app (a := s) hf.1 ho (hs h1).1 (by have := (hs []).ylen; simpa using this) hr
  have hg2 : hget h2 β = some (.cells [a, buf] (some 81)) := by rw [a4 β hbl hne]; exact hg
  have hl2 := fun g => (hs g).len
  have hb2 := hget_lt hg2
  obtain ⟨p1, p2⟩ := a2.plain
  simp [nilV, fadV, rd, hg, sub, asV, a1, stV, wr, hg2, p1, p2, setAll, hl2]
  refine ⟨rfl, ⟨a, v', hb, hget_set hb2 _, ha, a2.keep fun b hbb => hget_set_ne (fun e => ?_) _, fun e => ?_, fun b hbb => ?_⟩, hf.trans (a3.trans (Frm.set a3.1 hb _)), by simp; omega⟩
  · rcases a5 with a5 | a5
    · rw [a5] at hbb; exact hne (by rw [hbb, e])
    · rw [a5] at hbb; cases hbb; omega
  · rcases a5 with a5 | a5
    · rw [a5] at e; exact hne e
    · rw [a5] at e; cases e; omega
  · simp only [List.length_set]
    rcases a5 with a5 | a5
    · rw [a5] at hbb; have := hlt b hbb; omega
    · rw [a5] at hbb; cases hbb
      obtain ⟨_, ⟨rfl, _⟩ | ⟨b', cap, ex, rest, rfl, _, _, hgg, _, _⟩⟩ := a2
      · simp [V.blk] at a5
      · simp only [V.blk, Option.some.injEq] at a5; subst a5; exact hget_lt hgg

set_option maxHeartbeats 1000000 in
theorem writeString_spec {h : Hp} {k β n : Nat} {ys : List V} {s : List UInt8} (hk : k ≤ h.length) (H : Bld h k 81 5 β n ys) (hr : n + s.length ≤ room) :
    ACalls FX 42 [.ptr β 0, .str s] h (Wrote h k β (n + s.length) (ys ++ bytesV s) s.length) := by
  refine acall FX.ok ck42 rfl ?_
  simp [F42]
  refine (copyCheck_spec hk H).mono ?_
  rintro r h1 ⟨rfl, ⟨a, buf, hb, hg, ha, ho, hne, hlt⟩, hf, hln⟩
  have hbl := hget_lt hg
  obtain ⟨v', h2, a1, a2, a3, a4, a5, a6⟩ := OwnT.app (a := .str s) (m := s.length) (zs := bytesV s) hf.1 ho (by simp [src, bytesV]) (bytesV_length s) hr
  have hg2 : hget h2 β = some (.cells [a, buf] (some 81)) := by rw [a4 β hbl hne]; exact hg
  have hb2 := hget_lt hg2
  obtain ⟨p1, p2⟩ := a2.plain
  simp [nilV, fadV, rd, hg, sub, asV, a1, stV, wr, hg2, p1, p2, setAll, lenV]
  refine ⟨rfl, ⟨a, v', hb, hget_set hb2 _, ha, a2.keep fun b hbb => hget_set_ne (fun e => ?_) _, fun e => ?_, fun b hbb => ?_⟩, hf.trans (a3.trans (Frm.set a3.1 hb _)), by simp; omega⟩
  · rcases a5 with a5 | a5
    · rw [a5] at hbb; exact hne (by rw [hbb, e])
    · rw [a5] at hbb; cases hbb; omega
  · rcases a5 with a5 | a5
    · rw [a5] at e; exact hne e
    · rw [a5] at e; cases e; omega
  · simp only [List.length_set]
    rcases a5 with a5 | a5
    · rw [a5] at hbb; have := hlt b hbb; omega
    · rw [a5] at hbb; cases hbb
      obtain ⟨_, ⟨rfl, _⟩ | ⟨b', cap, ex, rest, rfl, _, _, hgg, _, _⟩⟩ := a2
      · simp [V.blk] at a5
      · simp only [V.blk, Option.some.injEq] at a5; subst a5; exact hget_lt hgg

theorem blen_spec {h : Hp} {k β n : Nat} {ys : List V} (H : Bld h k 81 5 β n ys) :
    ACalls FX 43 [.ptr β 0] h (fun r h' => r = .ret (.int .i64 n) ∧ h' = h) := by
  obtain ⟨a, buf, hb, hg, ha, ho, hne, hlt⟩ := H
  refine acall FX.ok ck43 rfl ?_
  simp [F43, nilV, fadV, rd, hg, sub, asV, ho.sl.len]

set_option maxHeartbeats 1000000 in
/-- What a builder holds; nothing is told of it behind that. -/
theorem bstring_spec {h : Hp} {k β : Nat} {s : List UInt8} (hk : k ≤ h.length) (H : Bld h k 81 5 β s.length (bytesV s)) (hmax : s.length ≤ room) :
    ACalls FX 44 [.ptr β 0] h (fun r h' => r = .ret (.str s) ∧ Frm k h h') := by
  obtain ⟨a, buf, hb, hg, ha, ho, hne, hlt⟩ := H
  refine acall FX.ok ck44 rfl ?_
  have hl := ho.sl.len
  obtain ⟨hyl, ⟨rfl, h0⟩ | ⟨b, cap, ex, rest, rfl, hpos, hkb, hgb, hc, hce⟩⟩ := ho
  · have hs : s = [] := List.eq_nil_of_length_eq_zero h0
    subst hs
    simp [F44, nilV, fadV, rd, hg, sub, asV, lenV, sldV, ustrV, Frm.refl hk]
  · have hcap : 0 < cap := by omega
    have hn0 : ¬ ((s.length : Int) = 0) := by omega
    have hsub : sub (bytesV s ++ rest) 0 s.length = some (bytesV s) := by
      unfold sub
      rw [if_pos (by rw [List.length_append, bytesV_length]; omega), List.drop_zero, List.take_append_of_le_length (by rw [bytesV_length]; exact Nat.le_refl _), List.take_of_length_le (by rw [bytesV_length]; exact Nat.le_refl _)]
    have hmx : (s.length : Int) ≤ 9223372036854775807 := by unfold room at hmax; omega
    have hu : ustrV h 5 (.ptr b 0) (.int .i64 s.length) = some (.val (.str s) (h.set b none)) := by
      unfold ustrV
      simp only []
      rw [if_neg hn0]
      simp only [hgb]
      rw [if_pos ⟨trivial, trivial, by omega, hmx⟩, Int.toNat_natCast, hsub]
      simp only []
      rw [if_pos (bytesV_isByte s), bytesV_back s _ (fun _ _ => rfl)]
    simp [F44, nilV, fadV, rd, hg, sub, asV, lenV, sldV, hcap, hu]
    exact Frm.set hk hkb none

end Go.Proofs.Ytpefpiccljohlaa
