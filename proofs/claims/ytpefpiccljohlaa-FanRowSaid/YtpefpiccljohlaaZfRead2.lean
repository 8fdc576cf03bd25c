/- What package codec splits and takes. -/
import Derived.Test.YtpefpiccljohlaaZfSplit
namespace Go.Proofs.Ytpefpiccljohlaa
open Go.Vs Go.RowKit
set_option linter.unusedSimpArgs false
set_option linter.unusedVariables false

/-- Texts that nobody writes. -/
def frz (ps : List (List UInt8)) : V := if ps = [] then .nsl else .lst false (ps.map .str)
theorem frz_fz (ps : List (List UInt8)) : Fz 1 (frz ps) ps.length (ps.map .str) := fun h => by
  unfold frz
  split
  · subst_vars; exact ⟨rfl, rfl, trivial⟩
  · refine ⟨?_, rfl, trivial⟩
    simp only [src]
    rw [if_pos (by intro x hx; obtain ⟨p, _, rfl⟩ := List.mem_map.1 hx; rfl)]
    simp [flat, List.flatMap_map, V.cells]
    induction ps with
    | nil => rfl
    | cons p r ih => cases r with
      | nil => rfl
      | cons q r => simp [ih]
theorem frz_low (ps : List (List UInt8)) : Low 0 (frz ps) := (frz_fz ps).low str_low

theorem chunk_str (ps : List (List UInt8)) : chunk 1 false ps.length (ps.map V.str) = ps.map V.str := by
  induction ps with
  | nil => rfl
  | cons p r ih => simp only [List.length_cons, chunk, List.map_cons, List.headD_cons, List.drop_succ_cons, List.drop_zero, ih]; rfl

theorem Own.frz {h : Hp} {k : Nat} {v : V} {ps : List (List UInt8)} (H : Own h k 1 false v ps.length (ps.map .str)) (h0 : ps = [] → v = .nsl) : Ice h k v (frz ps) := by
  unfold Ytpefpiccljohlaa.frz
  split
  · rename_i he; rw [h0 he]; exact .low _ .nsl
  · rename_i he
    obtain ⟨hl, ⟨rfl, h1⟩ | ⟨rfl, h1⟩ | ⟨b, cap, ex, rest, ty, rfl, hb, hg, hc, hce⟩⟩ := H
    · exact absurd (List.eq_nil_of_length_eq_zero h1) he
    · exact absurd (List.eq_nil_of_length_eq_zero h1) he
    · have e := Ice.sl (h := h) (k := k) b 0 ps.length cap ex 1 false _ ty (ps.map .str) (ps.map .str) hb hg (by simp [sub]) (fun _ => rfl) rfl (fun j x y hx hy => by
        rw [hx] at hy; cases hy
        exact .low _ ((str_low _ (List.mem_of_getElem? hx)).mono (Nat.zero_le _))) str_one
      rw [chunk_str] at e; exact e

/-- What 'read' answers, its texts frozen. -/
def ReadI (s : List UInt8) (r : Res) : Prop := match readB s with
  | some (k, l) => r = .ret (.tup [.int .u8 k.toNat, frz l, .int .i64 0])
  | none => ∃ k v, r = .ret (.tup [.int .u8 k, v, .int .i64 4])

theorem Ice.tup3 {h : Hp} {k : Nat} {a b c a' b' c' : V} (h1 : Ice h k a a') (h2 : Ice h k b b') (h3 : Ice h k c c') : Ice h k (.tup [a, b, c]) (.tup [a', b', c']) := by
  refine .tup _ _ rfl fun j x y hx hy => ?_
  match j with
  | 0 => simp at hx hy; subst hx; subst hy; exact h1
  | 1 => simp at hx hy; subst hx; subst hy; exact h2
  | 2 => simp at hx hy; subst hx; subst hy; exact h3
  | j + 3 => simp at hx

theorem read_spec {h : Hp} {s : List UInt8} (hn : s.length < 2 ^ 62) (hlow : LowH h.length h) : ACalls FX 45 [.str s] h (fun r h' => ReadI s r ∧ h' = h) := by
  refine (read_spec0 hn).ice fun r h' ⟨hf, hr⟩ => ⟨hf.1, hlow.frm hf, ?_⟩
  cases hb : readB s with
  | some x =>
    obtain ⟨k, l⟩ := x
    rw [hb] at hr
    obtain ⟨v, rfl, ho, h0⟩ := hr
    refine ⟨.ret (.tup [.int .u8 k.toNat, frz l, .int .i64 0]), Ice.tup3 (.low _ (.int _ _)) (Own.frz ho h0) (.low _ (.int _ _)), by simp only [ReadI, hb], by rw [hf.2]; simp⟩
  | none =>
    rw [hb] at hr
    obtain ⟨k, v, n, ps, rfl, ho⟩ := hr
    obtain ⟨v', h1, h2⟩ := ho.ice (fun _ => rfl) str_one str_low
    exact ⟨.ret (.tup [.int .u8 k, v', .int .i64 4]), Ice.tup3 (.low _ (.int _ _)) h1 (.low _ (.int _ _)), by simp only [ReadI, hb]; exact ⟨k, v', rfl⟩, by rw [hf.2]; simp⟩

/-- What 'Split' answers. -/
def splitV (s : List UInt8) : V := match readB s with
  | some (k, l) => .tup [.int .u8 k.toNat, frz l, .int .i64 0]
  | none => .tup [.int .u8 0, .nsl, .int .i64 4]

theorem split_spec {h : Hp} {s : List UInt8} (hn : s.length < 2 ^ 62) (hlow : LowH h.length h) : ACalls FX 38 [.str s] h (fun r h' => r = .ret (splitV s) ∧ h' = h) := by
  refine acall FX.ok ck38 rfl ?_
  simp [F38]
  refine (read_spec hn hlow).mono ?_
  rintro r h' ⟨hr, rfl⟩
  unfold ReadI at hr
  cases hb : readB s with
  | some x =>
    obtain ⟨k, l⟩ := x
    rw [hb] at hr
    subst hr
    simp [extV, splitV, hb]
  | none =>
    rw [hb] at hr
    obtain ⟨k, v, rfl⟩ := hr
    simp [extV, splitV, hb]

/-- The texts of one of this kind, and of so many. -/
def takeB (s : List UInt8) (k : Nat) (n : Nat) : Option (List (List UInt8)) := match readB s with
  | some (k', l) => if k'.toNat = k ∧ l.length = n then some l else none
  | none => none
def takeV (s : List UInt8) (k : Nat) (n : Nat) : V := match takeB s k n with
  | some l => .tup [frz l, .int .i64 0]
  | none => .tup [.nsl, .int .i64 4]

theorem ctake_spec {h : Hp} {s : List UInt8} {k n : Nat} (hn : s.length < 2 ^ 62) (hlow : LowH h.length h) : ACalls FX 28 [.str s, .int .u8 k, .int .i64 n] h (fun r h' => r = .ret (takeV s k n) ∧ h' = h) := by
  refine acall FX.ok ck28 rfl ?_
  simp [F28]
  refine (split_spec hn hlow).mono ?_
  rintro r h' ⟨rfl, rfl⟩
  unfold splitV takeV takeB
  cases hb : readB s with
  | some x =>
    obtain ⟨k', l⟩ := x
    have hl := (frz_fz l h').len
    by_cases hk : k'.toNat = k
    · have hk' : ((k'.toNat : Int) != k) = false := by simp; omega
      by_cases hln : l.length = n
      · have hn' : ((l.length : Int) != n) = false := by simp; omega
        simp [extV, hk', hl, hn', wanted, hk, hln]
      · have hn' : ((l.length : Int) != n) = true := by simp; omega
        simp [extV, hk', hl, hn', wanted, hk, hln]
    · have hk' : ((k'.toNat : Int) != k) = true := by simp; omega
      simp [extV, hk', hl, wanted, hk]
  | none => simp [extV, wanted]

theorem prefix_spec {h : Hp} {s p : List UInt8} : ACalls FX 46 [.str s, .str p] h (fun r h' => r = .ret (.bool (decide (p <+: s))) ∧ h' = h) := by
  refine acall FX.ok ck46 rfl ?_
  simp [F46]
  by_cases hl : p.length ≤ s.length
  · have : (p.length : Int) ≤ s.length := by omega
    simp [wanted, hl, V.isStr, slcV, upTo, strBin]
    rw [Bool.eq_iff_iff, beq_iff_eq, decide_eq_true_iff, List.prefix_iff_eq_take]
    exact eq_comm
  · have : ¬ (p.length : Int) ≤ s.length := by omega
    simp [wanted, hl]
    intro hp; exact hl hp.length_le

theorem hasPrefix_spec {h : Hp} {s p : List UInt8} : ACalls FX 39 [.str s, .str p] h (fun r h' => r = .ret (.bool (decide (p <+: s))) ∧ h' = h) := by
  refine acall FX.ok ck39 rfl ?_
  simp [F39]
  refine prefix_spec.mono ?_
  rintro r h' ⟨rfl, rfl⟩
  simp

end Go.Proofs.Ytpefpiccljohlaa
