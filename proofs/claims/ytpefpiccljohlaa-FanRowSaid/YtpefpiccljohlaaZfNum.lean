/- What package codec reads as a number. -/
import Derived.Test.YtpefpiccljohlaaZfRead2
namespace Go.Proofs.Ytpefpiccljohlaa
open Go.Vs Go.RowKit
set_option linter.unusedSimpArgs false
set_option linter.unusedVariables false

/-- The number of bytes. -/
def numOf (s : List UInt8) : Nat := s.foldl (fun n c => n * 256 + c.toNat) 0
theorem numOf_snoc (s : List UInt8) (c : UInt8) : numOf (s ++ [c]) = numOf s * 256 + c.toNat := by simp [numOf]
theorem numOf_lt (s : List UInt8) : numOf s < 256 ^ s.length := by
  have : ∀ (s : List UInt8) (a : Nat), s.foldl (fun n c => n * 256 + c.toNat) a < (a + 1) * 256 ^ s.length := by
    intro s
    induction s with
    | nil => intro a; simp
    | cons c r ih =>
      intro a
      have h1 := ih (a * 256 + c.toNat)
      have h2 := c.toNat_lt
      refine Nat.lt_of_lt_of_le h1 ?_
      rw [List.length_cons, Nat.pow_succ, Nat.mul_comm (256 ^ r.length) 256, ← Nat.mul_assoc]
      exact Nat.mul_le_mul_right _ (by omega)
  have := this s 0
  simpa [numOf] using this

def readN (s : List UInt8) : Option Nat := if s.length ≤ 8 ∧ ¬ [0] <+: s then some (numOf s) else none
def readV (s : List UInt8) : V := match readN s with
  | some n => .tup [.int .u64 n, .int .i64 0]
  | none => .tup [.int .u64 0, .int .i64 4]

theorem or_byte {n c : Nat} (hn : n * 256 < 18446744073709551616) (hc : c < 256) : (BitVec.ofInt 64 ((n : Int) * 256) ||| BitVec.ofInt 64 (c : Int)).toNat = n * 256 + c := by
  rw [BitVec.toNat_or]
  have e1 : (BitVec.ofInt 64 ((n : Int) * 256)).toNat = n * 256 := by
    rw [BitVec.toNat_ofInt]; omega
  have e2 : (BitVec.ofInt 64 (c : Int)).toNat = c := by
    rw [BitVec.toNat_ofInt]; omega
  rw [e1, e2, show n * 256 = n <<< 8 from by rw [Nat.shiftLeft_eq]]
  rw [← Nat.shiftLeft_add_eq_or_of_lt (by omega : c < 2 ^ 8)]

def readInv2 (h : Hp) (s : List UInt8) (m : Nat) (st : St) : Prop :=
  ∃ i : Nat, m + i = s.length ∧ st.t 15 = .lst false (bytesV s) ∧ st.t 16 = .int .i64 s.length ∧ st.t 17 = .int .i64 i ∧ st.t 4 = .int .u64 (numOf (s.take i) : Nat) ∧ st.h = h ∧ st.d = []

theorem take_snoc {s : List UInt8} {i : Nat} (hi : i < s.length) : s.take (i + 1) = s.take i ++ [s[i]] := by
  rw [List.take_add_one, List.getElem?_eq_getElem hi]; rfl

set_option maxHeartbeats 1000000 in
theorem readNum_spec {h : Hp} {s : List UInt8} (hn : s.length < 2 ^ 62) : ACalls FX 29 [.str s] h (fun r h' => r = .ret (readV s) ∧ h' = h) := by
  refine acall FX.ok ck29 rfl ?_
  simp [F29]
  by_cases h8 : (8 : Int) < s.length
  · have : ¬ s.length ≤ 8 := by omega
    simp [h8, wanted, readV, readN, this]
  · have h8' : s.length ≤ 8 := by omega
    simp [h8, wanted]
    refine hasPrefix_spec.mono ?_
    rintro r h' ⟨rfl, rfl⟩
    by_cases hp : [0] <+: s
    · simp [hp, readV, readN]
    · simp [hp, s2bV, lenV]
      refine vc_loop _ _ _ (readInv2 h' s) s.length ⟨0, by simp, by simp; rfl, by simp, by simp, by simp [numOf], rfl, rfl⟩ ?_
      rintro m ⟨t, h', d⟩ ⟨i, hm, h15, h16, h17, h4, hh, hd⟩
      simp only at h15 h16 h17 h4 hh hd
      subst hh; subst hd
      by_cases hi : i < s.length
      · obtain ⟨q, hq1, hq2⟩ := (Fz.bytes false s h').at (k := .i64) hi
        rw [one_at (y := .int .u8 s[i].toNat) (by simp [bytesV, hi])] at hq2
        have hw : IntKind.i64.wrap ((i : Int) + 1) = ((i + 1 : Nat) : Int) := by rw [wrap64 (by omega) (by omega)]; omega
        have hlt := numOf_lt (s.take i)
        have hle : 256 ^ (s.take i).length ≤ 256 ^ 7 := Nat.pow_le_pow_right (by omega) (by simp; omega)
        have hc := s[i].toNat_lt
        have hpw : (256 : Nat) ^ 7 = 72057594037927936 := by decide
        have hsh : IntKind.u64.wrap (((numOf (s.take i) : Nat) : Int) * 2 ^ min 8 IntKind.u64.bits) = ((numOf (s.take i) : Nat) : Int) * 256 := by
          have h1 : (2 : Int) ^ min 8 IntKind.u64.bits = 256 := by decide
          rw [h1, wrapu64 (by omega) (by omega)]
        have hcv : IntKind.u64.wrap (s[i].toNat : Int) = (s[i].toNat : Int) := wrapu64 (by omega) (by omega)
        have hor : IntKind.u64.wrap ((BitVec.ofInt 64 (((numOf (s.take i) : Nat) : Int) * 256) ||| BitVec.ofInt 64 (s[i].toNat : Int)).toNat : Int) = ((numOf (s.take (i + 1)) : Nat) : Int) := by
          rw [or_byte (by omega) (by omega), wrapu64 (by omega) (by omega), take_snoc hi, numOf_snoc]
        simp [h15, h16, h17, h4, hi, hq1, hq2, asV, cviV, hsh, hcv]
        have hb : IntKind.u64.bits = 64 := rfl
        rw [hb]
        refine ⟨m - 1, by omega, i + 1, by omega, by simp [h15], by simp [h16], by simp [hw], by simpa using hor, rfl, rfl⟩
      · have : i = s.length := by omega
        subst this
        rw [List.take_length] at h4
        simp [h15, h16, h17, h4, readV, readN, h8', hp]

def refReadInv (h : Hp) (s : List UInt8) (m : Nat) (st : St) : Prop :=
  ∃ i : Nat, m + i = s.length ∧ i ≤ 8 ∧ st.t 0 = .str s ∧ st.t 5 = .int .i64 i ∧ st.t 4 = .int .u64 (numOf (s.take i) : Nat) ∧ st.h = h ∧ st.d = []

def refReadV (s : List UInt8) : V := if numB (numOf (s.take 8)) = s then .tup [.int .u64 (numOf (s.take 8) : Nat), .int .i64 0] else .tup [.int .u64 0, .int .i64 4]

set_option maxHeartbeats 1000000 in
theorem refReadNum_spec0 {h : Hp} {s : List UInt8} (hn : s.length < 2 ^ 62) : ACalls FX 33 [.str s] h (fun r h' => r = .ret (refReadV s) ∧ h' = h) := by
  refine acall FX.ok ck33 rfl ?_
  simp [F33]
  refine vc_loop _ _ _ (refReadInv h s) s.length ⟨0, by simp, by simp, by simp, by simp, by simp [numOf], rfl, rfl⟩ ?_
  rintro m ⟨t, h', d⟩ ⟨i, hm, hi8, h0, h5, h4, hh, hd⟩
  simp only at h0 h5 h4 hh hd
  subst hh; subst hd
  by_cases hc : i < s.length ∧ i < 8
  · obtain ⟨hi, hi7⟩ := hc
    have hi7' : (i : Int) < 8 := by omega
    have hw : IntKind.i64.wrap ((i : Int) + 1) = ((i + 1 : Nat) : Int) := by rw [wrap64 (by omega) (by omega)]; omega
    have hlt := numOf_lt (s.take i)
    have hle : 256 ^ (s.take i).length ≤ 256 ^ 7 := Nat.pow_le_pow_right (by omega) (by simp; omega)
    have hc := s[i].toNat_lt
    have hpw : (256 : Nat) ^ 7 = 72057594037927936 := by decide
    have hsh : IntKind.u64.wrap (((numOf (s.take i) : Nat) : Int) * 256) = ((numOf (s.take i) : Nat) : Int) * 256 := wrapu64 (by omega) (by omega)
    have hcv : IntKind.u64.wrap (s[i].toNat : Int) = (s[i].toNat : Int) := wrapu64 (by omega) (by omega)
    have hor : IntKind.u64.wrap (((numOf (s.take i) : Nat) : Int) * 256 + (s[i].toNat : Int)) = ((numOf (s.take (i + 1)) : Nat) : Int) := by
      rw [wrapu64 (by omega) (by omega), take_snoc hi, numOf_snoc]; omega
    simp [h0, h5, h4, hi, hi7', wanted, idxsV, cviV, hsh, hcv, hor, hw]
    exact ⟨m - 1, by omega, i + 1, by omega, by omega, by simp [h0], by simp, by simp, rfl, rfl⟩
  · have he : s.take i = s.take 8 := by
      rcases Nat.lt_or_ge i 8 with h8 | h8
      · rw [List.take_of_length_le (by omega), List.take_of_length_le (by omega)]
      · rw [show i = 8 by omega]
    have hlt := numOf_lt (s.take 8)
    have hle : 256 ^ (s.take 8).length ≤ 256 ^ 8 := Nat.pow_le_pow_right (by omega) (by simp; omega)
    have hpw : (256 : Nat) ^ 8 = 18446744073709551616 := by decide
    rw [he] at h4
    by_cases hi : i < s.length
    · have h8 : ¬ ((i : Int) < 8) := by omega
      simp [h0, h5, h4, hi, h8, wanted]
      refine (refNum_spec (by omega)).mono ?_
      rintro r h'' ⟨rfl, rfl⟩
      by_cases hq : numB (numOf (s.take 8)) = s
      · simp [h0, h4, strBin, hq, refReadV]
      · have hb : (numB (numOf (s.take 8)) == s) = false := by simpa using hq
        simp [h0, h4, strBin, hb, hq, refReadV]
    · simp [h0, h5, h4, hi, wanted]
      refine (refNum_spec (by omega)).mono ?_
      rintro r h'' ⟨rfl, rfl⟩
      by_cases hq : numB (numOf (s.take 8)) = s
      · simp [h0, h4, strBin, hq, refReadV]
      · have hb : (numB (numOf (s.take 8)) == s) = false := by simpa using hq
        simp [h0, h4, strBin, hb, hq, refReadV]

theorem numB_numOf : ∀ (s : List UInt8), ¬ [0] <+: s → numB (numOf s) = s := by
  have key : ∀ (n : Nat) (s : List UInt8), s.length = n → ¬ [0] <+: s → numB (numOf s) = s := by
    intro n
    induction n with
    | zero => intro s hs _; have : s = [] := List.eq_nil_of_length_eq_zero hs; subst this; simp [numOf, numB]
    | succ n ih =>
      intro s hs hp
      obtain ⟨r, c, rfl⟩ : ∃ r c, s = r ++ [c] := ⟨s.dropLast, s.getLast (by intro e; rw [e] at hs; simp at hs), (List.dropLast_concat_getLast _).symm⟩
      have hr : r.length = n := by simpa using hs
      have hc := c.toNat_lt
      by_cases hr0 : r = []
      · subst hr0
        have hc0 : c ≠ 0 := by rintro rfl; exact hp (by simp)
        have hpos : 0 < c.toNat := by
          rcases Nat.eq_zero_or_pos c.toNat with h | h
          · exact absurd (UInt8.toNat.inj (by rw [h]; rfl)) hc0
          · exact h
        have e : numOf ([] ++ [c]) = c.toNat := by simp [numOf]
        rw [e, numB_pos hpos, show c.toNat / 256 = 0 by omega, show c.toNat % 256 = c.toNat by omega]
        simp [numB]
      · have hp' : ¬ [0] <+: r := fun h => hp (h.trans (List.prefix_append _ _))
        have h1 := ih r hr hp'
        rw [numOf_snoc]
        have hpos : 0 < numOf r := by
          rcases Nat.eq_zero_or_pos (numOf r) with h | h
          · rw [h] at h1; simp [numB] at h1; exact absurd h1 hr0
          · exact h
        rw [numB_pos (by omega), show (numOf r * 256 + c.toNat) / 256 = numOf r by omega, show (numOf r * 256 + c.toNat) % 256 = c.toNat by omega, h1]
        simp
  exact fun s => key s.length s rfl

theorem numB_head (n : Nat) : ¬ [0] <+: numB n := by
  induction n using Nat.strongRecOn with
  | _ n ih =>
    intro h
    rcases Nat.eq_zero_or_pos n with rfl | hpos
    · simp [numB] at h
    · rw [numB_pos hpos] at h
      by_cases h0 : n / 256 = 0
      · rw [h0] at h
        simp [numB] at h
        have : (UInt8.ofNat (n % 256)).toNat = 0 := by rw [← h]; rfl
        rw [UInt8.toNat_ofNat'] at this
        omega
      · have hlt : n / 256 < n := by omega
        refine ih (n / 256) hlt ?_
        have hne : numB (n / 256) ≠ [] := by rw [numB_pos (by omega)]; simp
        cases hq : numB (n / 256) with
        | nil => exact absurd hq hne
        | cons a b => rw [hq] at h; simp at h ⊢; exact h

theorem refReadV_eq (s : List UInt8) : refReadV s = readV s := by
  unfold refReadV readV readN
  by_cases hs : s.length ≤ 8
  · rw [List.take_of_length_le hs]
    by_cases hp : [0] <+: s
    · have : numB (numOf s) ≠ s := fun e => numB_head (numOf s) (by rw [e]; exact hp)
      simp [this, hp]
    · simp [numB_numOf s hp, hs, hp]
  · have : numB (numOf (s.take 8)) ≠ s := fun e => by
      have hlt := numOf_lt (s.take 8)
      have hle : 256 ^ (s.take 8).length ≤ 256 ^ 8 := Nat.pow_le_pow_right (by omega) (by simp; omega)
      have := numB_len 8 (Nat.lt_of_lt_of_le hlt hle)
      rw [e] at this; exact hs this
    simp [this, hs]

theorem refReadNum_spec {h : Hp} {s : List UInt8} (hn : s.length < 2 ^ 62) : ACalls FX 33 [.str s] h (fun r h' => r = .ret (readV s) ∧ h' = h) := by
  have := refReadNum_spec0 (h := h) hn
  rw [refReadV_eq] at this
  exact this

end Go.Proofs.Ytpefpiccljohlaa
