/- What package codec joins. -/
import Derived.Test.YtpefpiccljohlaaZfBuild
namespace Go.Proofs.Ytpefpiccljohlaa
open Go.Vs Go.RowKit
set_option linter.unusedSimpArgs false
set_option linter.unusedVariables false

/-- A text, and ahead of it its length. -/
def part (s : List UInt8) : List UInt8 := UInt8.ofNat (s.length / 256) :: UInt8.ofNat (s.length % 256) :: s
def joinB (k : UInt8) (l : List (List UInt8)) : List UInt8 := 1 :: k :: UInt8.ofNat l.length :: l.flatMap part
def joinR (k : UInt8) (l : List (List UInt8)) : List UInt8 × Int :=
  if 255 < l.length then ([], 3) else if l.any (fun s => 4000 < s.length) then ([], 3) else if 30000 < (joinB k l).length then ([], 3) else (joinB k l, 0)

theorem wrapu8 {n : Nat} : IntKind.u8.wrap (n : Int) = ((UInt8.ofNat n).toNat : Int) := by
  rw [IntKind.wrap]
  simp [IntKind.bits, IntKind.signed]

theorem Fz.bytes (ex : Bool) (s : List UInt8) : Fz 1 (.lst ex (bytesV s)) s.length (bytesV s) := fun h => by
  have h1 : ∀ x ∈ bytesV s, x.cells.length = 1 := by
    intro x hx; obtain ⟨c, _, rfl⟩ := List.mem_map.1 hx; rfl
  have h2 : flat (bytesV s) = bytesV s := by
    unfold flat bytesV
    rw [List.flatMap_map]
    simp only [V.cells]
    clear h1
    induction s with
    | nil => rfl
    | cons a r ih => rw [List.flatMap_cons, ih]; rfl
  refine ⟨?_, rfl, trivial⟩
  simp only [src]
  rw [if_pos h1, h2, bytesV_length]

def headB (k : UInt8) (ps : List (List UInt8)) : List UInt8 := [1, k, UInt8.ofNat ps.length]

def joinInv (h0 : Hp) (l : V) (n : Nat) (k : UInt8) (ps : List (List UInt8)) (m : Nat) (st : St) : Prop :=
  ∃ i : Nat, m + i = n ∧ st.t 6 = .ptr h0.length 0 ∧ st.t 21 = l ∧ st.t 22 = .int .i64 n ∧ st.t 23 = .int .i64 i ∧ st.d = [] ∧
    Frm h0.length h0 st.h ∧ Bld st.h h0.length 81 5 h0.length (headB k ps ++ (ps.take i).flatMap part).length (bytesV (headB k ps ++ (ps.take i).flatMap part)) ∧ ∀ p ∈ ps.take i, p.length ≤ 4000

def JoinRes (h : Hp) (k : UInt8) (ps : List (List UInt8)) : Res → Hp → Prop := fun r h' => r = .ret (.tup [.str (joinR k ps).1, .int .i64 (joinR k ps).2]) ∧ Frm h.length h h'

theorem ofNat_mod (n : Nat) : UInt8.ofNat (n % 256) = UInt8.ofNat n := by
  apply UInt8.toNat.inj; simp

theorem lenBytes (n : Nat) : V.lst true [.int .u8 (IntKind.u8.wrap ((n : Int).fdiv (2 ^ min 8 IntKind.i64.bits))), .int .u8 (IntKind.u8.wrap n)] = .lst true (bytesV [UInt8.ofNat (n / 256), UInt8.ofNat (n % 256)]) := by
  have h1 : (n : Int).fdiv (2 ^ min 8 IntKind.i64.bits) = ((n / 256 : Nat) : Int) := by
    have : (2 : Int) ^ min 8 IntKind.i64.bits = 256 := by decide
    rw [this, Int.fdiv_eq_ediv_of_nonneg _ (by decide)]
    omega
  rw [h1, wrapu8, wrapu8, ofNat_mod]
  rfl

theorem part_len (s : List UInt8) : (part s).length = s.length + 2 := by simp [part]

theorem parts_le {ps : List (List UInt8)} {i : Nat} (hi : ∀ p ∈ ps.take i, p.length ≤ 4000) : ((ps.take i).flatMap part).length ≤ 4002 * i := by
  induction i generalizing ps with
  | zero => simp
  | succ i ih =>
    cases ps with
    | nil => simp
    | cons a r =>
      simp only [List.take_succ_cons, List.flatMap_cons, List.length_append, part_len]
      have h1 := hi a (by simp)
      have h2 := ih (ps := r) (fun p hp => hi p (by simp [hp]))
      omega

set_option maxHeartbeats 4000000 in
theorem join_spec0 {h : Hp} {l : V} {k : UInt8} {ps : List (List UInt8)} (H : Fz 1 l ps.length (ps.map .str)) (hn : ps.length < 2 ^ 40) :
    ACalls FX 34 [.int .u8 k.toNat, l] h (JoinRes h k ps) := by
  refine acall FX.ok ck34 rfl ?_
  have hlen := fun g => (H g).len
  simp [F34, hlen]
  by_cases h255 : 255 < ps.length
  · have : (255 : Int) < ps.length := by omega
    simp [this, JoinRes, joinR, h255, Frm.refl]
  · have : ¬ (255 : Int) < ps.length := by omega
    simp [this, fillV, V.cells, V.one, setAll, chunk, cviV, hlen]
    have hB : Bld (h ++ [some (.cells [.nptr, .nsl] (some 81))]) h.length 81 5 h.length 0 [] :=
      ⟨.nptr, .nsl, Nat.le_refl _, hget_new _ _, .inl rfl, ⟨rfl, .inl ⟨rfl, rfl⟩⟩, by simp [V.blk], by simp [V.blk]⟩
    have hz : (V.lst true [.int .u8 1, .int .u8 k.toNat, .int .u8 (IntKind.u8.wrap ps.length)]) = .lst true (bytesV (headB k ps)) := by
      rw [wrapu8]; rfl
    rw [hz]
    refine (write_spec (m := 3) (by simp) hB (Fz.bytes true (headB k ps)) (by unfold room; omega)).mono ?_
    rintro r h1 ⟨rfl, hB1, hf1, hl1⟩
    have hf1' : Frm h.length h h1 := (Frm.append (Nat.le_refl _) _).trans hf1
    simp [hlen]
    refine vc_loop _ _ _ (joinInv h l ps.length k ps) ps.length ⟨0, by omega, by simp, by simp, by simp, by simp, rfl, hf1', by simpa [headB] using hB1, by simp⟩ ?_
    rintro m ⟨t, h', d⟩ ⟨i, hm, h6, h21, h22, h23, hd, hf, hB, hall⟩
    simp only at h6 h21 h22 h23 hd hf hB
    subst hd
    by_cases hi : i < ps.length
    · obtain ⟨q, hq1, hq2⟩ := (H h').at (k := .i64) hi
      have hpi : ps[i]? = some (ps[i]'hi) := List.getElem?_eq_getElem _
      generalize ps[i]'hi = pi at hpi
      rw [one_at (y := .str pi) (by simp [hpi])] at hq2
      simp [h6, h21, h22, h23, hi, hq1, hq2, asV, lenV]
      by_cases hp : (4000 : Int) < pi.length
      · have hany : ps.any (fun s => 4000 < s.length) = true := by
          rw [List.any_eq_true]; exact ⟨pi, List.mem_of_getElem? hpi, by simp; omega⟩
        simp [hp, JoinRes, joinR, h255, hany]
        exact hf
      · simp [hp, h6, fillV, V.cells, V.one, setAll, chunk, cviV, lenV]
        rw [lenBytes]
        have hbl := parts_le hall
        have h5 : (headB k ps ++ (ps.take i).flatMap part).length ≤ 3 + 4002 * 255 := by
          rw [List.length_append, show (headB k ps).length = 3 from rfl]; omega
        have hp4 : pi.length ≤ 4000 := by omega
        refine (write_spec (m := 2) hf.1 hB (Fz.bytes true [UInt8.ofNat (pi.length / 256), UInt8.ofNat (pi.length % 256)]) (by unfold room; omega)).mono ?_
        rintro r g1 ⟨rfl, hB1, hf1, hl1⟩
        simp [h6]
        refine (writeString_spec hf1.1 hB1 (by unfold room; omega)).mono ?_
        rintro r g2 ⟨rfl, hB2, hf2, hl2⟩
        have hw : IntKind.i64.wrap ((i : Int) + 1) = (i : Int) + 1 := wrap64 (by omega) (by omega)
        simp [h23, hw]
        have htk : ps.take (i + 1) = ps.take i ++ [pi] := by rw [List.take_add_one, hpi]; rfl
        have hpt : headB k ps ++ (ps.take (i + 1)).flatMap part = headB k ps ++ (ps.take i).flatMap part ++ [UInt8.ofNat (pi.length / 256), UInt8.ofNat (pi.length % 256)] ++ pi := by
          rw [htk, List.flatMap_append]; simp [part]
        refine ⟨m - 1, by omega, i + 1, by omega, by simp [h6], by simp [h21], by simp [h22], by simp, rfl, hf.trans (hf1.trans hf2), ?_, fun p hp => ?_⟩
        · rw [hpt, bytesV_append, bytesV_append, List.length_append (bs := pi), List.length_append (bs := [UInt8.ofNat (pi.length / 256), UInt8.ofNat (pi.length % 256)])]
          exact hB2
        · rw [htk] at hp
          rcases List.mem_append.1 hp with hp | hp
          · exact hall p hp
          · simp at hp; subst hp; exact hp4
    · have hie : i = ps.length := by omega
      subst hie
      rw [List.take_length] at hB hall
      have hany : ps.any (fun s => 4000 < s.length) = false := by
        rw [List.any_eq_false]; intro p hp; have := hall p hp; simp; omega
      have hbl : (headB k ps ++ ps.flatMap part).length ≤ 3 + 4002 * 255 := by
        have := parts_le (ps := ps) (i := ps.length) (by rw [List.take_length]; exact hall)
        rw [List.take_length] at this
        rw [List.length_append, show (headB k ps).length = 3 from rfl]; omega
      have hjb : joinB k ps = headB k ps ++ ps.flatMap part := rfl
      generalize headB k ps ++ ps.flatMap part = bs at hB hbl hjb
      simp [h6, h21, h22, h23]
      refine (blen_spec hB).mono ?_
      rintro r g1 ⟨rfl, rfl⟩
      by_cases h30 : 30000 < bs.length
      · have : (30000 : Int) < (bs.length : Nat) := by omega
        simp [this]
        refine ⟨?_, hf⟩
        simp only [joinR, h255, hany, hjb, h30, if_false, if_true, Bool.false_eq_true]
      · have : ¬ (30000 : Int) < (bs.length : Nat) := by omega
        simp [this, h6]
        refine (bstring_spec hf.1 hB (by unfold room; omega)).mono ?_
        rintro r g2 ⟨rfl, hf2⟩
        simp
        refine ⟨?_, hf.trans hf2⟩
        simp only [joinR, h255, hany, hjb, h30, if_false, Bool.false_eq_true]


theorem join_spec {h : Hp} {l : V} {k : UInt8} {ps : List (List UInt8)} (H : Fz 1 l ps.length (ps.map .str)) (hn : ps.length < 2 ^ 40) (hlow : LowH h.length h) :
    ACalls FX 34 [.int .u8 k.toNat, l] h (fun r h' => r = .ret (.tup [.str (joinR k ps).1, .int .i64 (joinR k ps).2]) ∧ h' = h) :=
  (join_spec0 H hn).cut hlow fun r hr => by subst hr; exact low_str2 _ _ _

theorem b2s_bytes (h : Hp) (ex : Bool) (s : List UInt8) : b2sV h (.lst ex (bytesV s)) = some (.str s) := by
  have h1 := (Fz.bytes ex s h).1
  unfold b2sV
  simp only [V.isStr, Bool.false_eq_true, if_false, h1]
  rw [if_pos (bytesV_isByte s), bytesV_back s _ (fun _ _ => rfl)]

def refJoinInv (h : Hp) (l : V) (k : UInt8) (ps : List (List UInt8)) (m : Nat) (st : St) : Prop :=
  ∃ i : Nat, m + i = ps.length ∧ st.t 1 = l ∧ st.t 6 = .str (headB k ps ++ (ps.take i).flatMap part) ∧ st.t 7 = .int .i64 i ∧ st.d = [] ∧ st.h = h ∧ ∀ p ∈ ps.take i, p.length ≤ 4000

theorem lenBytes2 {n : Nat} (hn : n < 2 ^ 40) : V.lst true [.int .u8 (IntKind.u8.wrap (IntKind.i64.wrap ((n : Int) / 256))), .int .u8 (IntKind.u8.wrap ((n : Int).tmod 256))] = .lst true (bytesV [UInt8.ofNat (n / 256), UInt8.ofNat (n % 256)]) := by
  have h1 : IntKind.i64.wrap ((n : Int) / 256) = ((n / 256 : Nat) : Int) := by rw [wrap64 (by omega) (by omega)]; omega
  have h2 : (n : Int).tmod 256 = ((n % 256 : Nat) : Int) := by rw [Int.tmod_eq_emod_of_nonneg (by omega)]; omega
  rw [h1, h2, wrapu8, wrapu8]
  rfl

set_option maxHeartbeats 4000000 in
theorem refJoinS_spec {h : Hp} {l : V} {k : UInt8} {ps : List (List UInt8)} (H : Sl h 1 l ps.length (ps.map .str)) (hn : ps.length < 2 ^ 40) :
    ACalls FX 36 [.int .u8 k.toNat, l] h (fun r h' => r = .ret (.tup [.str (joinR k ps).1, .int .i64 (joinR k ps).2]) ∧ h' = h) := by
  refine acall FX.ok ck36 rfl ?_
  have hlen := H.len
  simp [F36, hlen]
  by_cases h255 : 255 < ps.length
  · have : (255 : Int) < ps.length := by omega
    simp [this, joinR, h255]
  · have : ¬ (255 : Int) < ps.length := by omega
    have hz : (V.lst true [.int .u8 1, .int .u8 k.toNat, .int .u8 (IntKind.u8.wrap ps.length)]) = .lst true (bytesV (headB k ps)) := by
      rw [wrapu8]; rfl
    simp [this, fillV, V.cells, V.one, setAll, chunk, cviV, hlen, hz, b2s_bytes]
    refine vc_loop _ _ _ (refJoinInv h l k ps) ps.length ⟨0, by omega, by simp, by simp, by simp, rfl, rfl, by simp⟩ ?_
    rintro m ⟨t, h', d⟩ ⟨i, hm, h1, h6, h7, hd, hh, hall⟩
    simp only at h1 h6 h7 hd hh
    subst hd; subst hh
    have hbl := parts_le hall
    have h5 : (headB k ps ++ (ps.take i).flatMap part).length ≤ 3 + 4002 * i := by
      rw [List.length_append, show (headB k ps).length = 3 from rfl]; omega
    by_cases hi : i < ps.length
    · obtain ⟨q, hq1, hq2⟩ := H.at (k := .i64) hi
      have hpi : ps[i]? = some (ps[i]'hi) := List.getElem?_eq_getElem _
      generalize ps[i]'hi = pi at hpi
      rw [one_at (y := .str pi) (by simp [hpi])] at hq2
      have htk : ps.take (i + 1) = ps.take i ++ [pi] := by rw [List.take_add_one, hpi]; rfl
      generalize hA : headB k ps ++ (ps.take i).flatMap part = A at *
      simp [h1, h6, h7, hi, hq1, hq2, asV, lenV_str, hlen]
      by_cases hp : (4000 : Int) < pi.length
      · have hany : ps.any (fun s => 4000 < s.length) = true := by
          rw [List.any_eq_true]; exact ⟨pi, List.mem_of_getElem? hpi, by simp; omega⟩
        simp [hp, joinR, h255, hany]
      · have hr1 : A.length + 2 ≤ room := by unfold room; omega
        have hr2 : A.length + 2 + pi.length ≤ room := by unfold room; omega
        simp [hp, h1, h6, h7, fillV, V.cells, V.one, setAll, chunk, cviV, lenV_str, lenBytes2 (show pi.length < 2 ^ 40 by omega), b2s_bytes, strBin, hr1, hr2, hq1, hq2, asV]
        have hw : IntKind.i64.wrap ((i : Int) + 1) = (i : Int) + 1 := wrap64 (by omega) (by omega)
        simp [h7, hw]
        refine ⟨m - 1, by omega, i + 1, by omega, by simp [h1], ?_, by simp, rfl, rfl, fun p hp => ?_⟩
        · simp only [put_some]
          rw [htk, List.flatMap_append, ← List.append_assoc, hA]
          simp [part]
        · rw [htk] at hp
          rcases List.mem_append.1 hp with hp | hp
          · exact hall p hp
          · simp at hp; subst hp; omega
    · have hie : i = ps.length := by omega
      subst hie
      rw [List.take_length] at h6 hall h5
      have hany : ps.any (fun s => 4000 < s.length) = false := by
        rw [List.any_eq_false]; intro p hp; have := hall p hp; simp; omega
      have hjb : joinB k ps = headB k ps ++ ps.flatMap part := rfl
      generalize headB k ps ++ ps.flatMap part = bs at *
      simp [h1, h6, h7, hlen, lenV_str]
      by_cases h30 : 30000 < bs.length
      · have : (30000 : Int) < (bs.length : Nat) := by omega
        simp [this]
        simp only [joinR, h255, hany, hjb, h30, if_false, if_true, Bool.false_eq_true, and_self]
      · have : ¬ (30000 : Int) < (bs.length : Nat) := by omega
        simp [this, h6]
        simp only [joinR, h255, hany, hjb, h30, if_false, Bool.false_eq_true, and_self]

theorem refJoin_spec {h : Hp} {l : V} {k : UInt8} {ps : List (List UInt8)} (H : Fz 1 l ps.length (ps.map .str)) (hn : ps.length < 2 ^ 40) :
    ACalls FX 36 [.int .u8 k.toNat, l] h (fun r h' => r = .ret (.tup [.str (joinR k ps).1, .int .i64 (joinR k ps).2]) ∧ h' = h) := refJoinS_spec (H h) hn

/-- A number's bytes, the greatest first, with no nought ahead. -/
def numB (n : Nat) : List UInt8 := if h : n = 0 then [] else numB (n / 256) ++ [UInt8.ofNat (n % 256)]
termination_by n
decreasing_by omega

def refNumInv (h : Hp) (n : Nat) (m : Nat) (st : St) : Prop :=
  ∃ out, st.t 0 = .int .u64 m ∧ st.t 3 = .str out ∧ st.d = [] ∧ st.h = h ∧ numB n = numB m ++ out ∧ m ≤ n

theorem numB_pos {m : Nat} (hm : 0 < m) : numB m = numB (m / 256) ++ [UInt8.ofNat (m % 256)] := by
  rw [numB, dif_neg (by omega)]

theorem numB_len : ∀ (k : Nat) {n : Nat}, n < 256 ^ k → (numB n).length ≤ k
  | 0, n, h => by
    have : n = 0 := by simpa using h
    subst this; simp [numB]
  | k + 1, n, h => by
    by_cases h0 : n = 0
    · subst h0; simp [numB]
    · rw [numB_pos (by omega), List.length_append]
      have := numB_len k (n := n / 256) (by rw [Nat.div_lt_iff_lt_mul (by omega)]; rw [Nat.pow_succ] at h; exact h)
      simp; omega

theorem wrapu64 {n : Int} (h0 : 0 ≤ n) (h1 : n < 18446744073709551616) : IntKind.u64.wrap n = n := by
  rw [IntKind.wrap]
  simp [IntKind.bits, IntKind.signed]
  omega

set_option maxHeartbeats 2000000 in
theorem refNum_spec {h : Hp} {n : Nat} (hn : n < 18446744073709551616) : ACalls FX 37 [.int .u64 n] h (fun r h' => r = .ret (.str (numB n)) ∧ h' = h) := by
  refine acall FX.ok ck37 rfl ?_
  simp [F37]
  refine vc_loop _ _ _ (refNumInv h n) n ⟨[], by simp, by simp, rfl, rfl, by simp, Nat.le_refl _⟩ ?_
  rintro m ⟨t, h', d⟩ ⟨out, h0, h3, hd, hh, he, hmn⟩
  simp only at h0 h3 hd hh
  subst hd; subst hh
  by_cases hm : 0 < m
  · have hm' : (0 : Int) < m := by omega
    have hq : IntKind.u64.wrap ((m : Int) / 256) = ((m / 256 : Nat) : Int) := by rw [wrapu64 (by omega) (by omega)]; omega
    have hr : (m : Int).tmod 256 = ((m % 256 : Nat) : Int) := by rw [Int.tmod_eq_emod_of_nonneg (by omega)]; omega
    have hb : V.lst true [V.int .u8 (IntKind.u8.wrap ((m : Int).tmod 256))] = .lst true (bytesV [UInt8.ofNat (m % 256)]) := by
      rw [hr, wrapu8]; rfl
    have hl8 : (numB n).length ≤ 8 := numB_len 8 (by simpa using hn)
    have hol : 1 + out.length ≤ room := by
      rw [he, List.length_append] at hl8
      unfold room; omega
    simp [h0, h3, hm, hm', cviV, fillV, V.cells, V.one, setAll, chunk, hb, b2s_bytes, strBin, hq, hol]
    refine ⟨m / 256, by omega, UInt8.ofNat (m % 256) :: out, ?_, by simp, rfl, rfl, ?_, by omega⟩
    · simp
    · rw [he, numB_pos hm]; simp
  · have hm0 : m = 0 := by omega
    subst hm0
    simp [h0, h3]
    rw [he]; simp [numB]


def numInv (h0 : Hp) (n : Nat) (j : Nat) (st : St) : Prop :=
  ∃ v, j ≤ 8 ∧ st.t 0 = .int .u64 n ∧ st.t 3 = v ∧ st.t 4 = .int .i64 (8 * (j : Int) - 8) ∧ st.d = [] ∧ Own st.h h0.length 1 false v (numB (n / 256 ^ j)).length (bytesV (numB (n / 256 ^ j))) ∧ Frm h0.length h0 st.h

set_option maxHeartbeats 2000000 in
theorem num_spec0 {h : Hp} {n : Nat} (hn : n < 18446744073709551616) : ACalls FX 35 [.int .u64 n] h (fun r h' => r = .ret (.str (numB n)) ∧ Frm h.length h h') := by
  refine acall FX.ok ck35 rfl ?_
  simp [F35]
  have hz : numB (n / 256 ^ 8) = [] := by
    have : n / 256 ^ 8 = 0 := Nat.div_eq_of_lt (by simpa using hn)
    rw [this, numB]; simp
  refine vc_loop _ _ _ (numInv h n) 8 ⟨.nsl, Nat.le_refl _, by simp, by simp, by simp, rfl, by rw [hz]; exact ⟨rfl, .inl ⟨rfl, rfl⟩⟩, Frm.refl (Nat.le_refl _)⟩ ?_
  rintro j ⟨t, h', d⟩ ⟨v, hj, h0, h3, h4, hd, ho, hf⟩
  simp only at h0 h3 h4 hd ho hf
  subst hd
  cases j with
  | zero =>
    simp at ho
    simp [h0, h3, h4]
    have hsl := ho.sl
    have hb : b2sV h' v = some (.str (numB n)) := by
      unfold b2sV
      simp only [hsl.2.1, Bool.false_eq_true, if_false, hsl.1]
      rw [if_pos (bytesV_isByte _), bytesV_back _ _ (fun _ _ => rfl)]
    simp [h3, hb]
    exact hf
  | succ j =>
    have hi0 : (0 : Int) ≤ 8 * ((j : Int) + 1) - 8 := by omega
    have hsh : (8 * ((j : Int) + 1) - 8).toNat = 8 * j := by omega
    have hmin : min (8 * j) IntKind.u64.bits = 8 * j := by have : IntKind.u64.bits = 64 := rfl; omega
    generalize hq : n / 256 ^ j = q at *
    have hq1 : n / 256 ^ (j + 1) = q / 256 := by rw [← hq, Nat.div_div_eq_div_mul, Nat.pow_succ]
    rw [hq1] at ho
    have hfd : (n : Int).fdiv (2 ^ (8 * j)) = (q : Int) := by
      have h2 : (2 : Int) ^ (8 * j) = ((256 ^ j : Nat) : Int) := by
        rw [show (256 : Nat) = 2 ^ 8 from rfl, ← Nat.pow_mul]; simp
      rw [h2, Int.fdiv_eq_ediv_of_nonneg _ (Int.natCast_nonneg _), ← Int.natCast_ediv, hq]
    have hc8 : (8 : Int) ≤ 8 * ((j : Int) + 1) := by omega
    have hcw : IntKind.u8.wrap (q : Int) = (q : Int) % 256 := by rw [wrapu8]; simp
    have hw : IntKind.i64.wrap (8 * ((j : Int) + 1) - 8 - 8) = 8 * (j : Int) - 8 := by rw [wrap64 (by omega) (by omega)]; omega
    have hpos : 0 < (numB (q / 256)).length ↔ q / 256 ≠ 0 := by
      by_cases h0 : q / 256 = 0
      · rw [h0, numB]; simp
      · rw [numB_pos (by omega)]; simp; omega
    by_cases hskip : (q : Int) % 256 = 0 ∧ q / 256 = 0
    · obtain ⟨hc, hq0⟩ := hskip
      have hlen0 : ¬ 0 < (numB (q / 256)).length := by rw [hpos]; simp [hq0]
      have hb : ((q : Int) % 256 != 0) = false := by simp [hc]
      have hq00 : q = 0 := by omega
      simp [h0, h3, h4, hi0, hc8, hsh, hmin, hfd, cviV, hcw, hb, wanted, ho.sl.len, hlen0]
      refine ⟨j, by omega, v, by omega, by simp [h0], by simp [h3], by simp [hw], rfl, ?_, hf⟩
      rw [hq, hq00]
      rw [hq00] at ho
      exact ho
    · have hq00 : 0 < q := by
        rcases Nat.eq_zero_or_pos q with h' | h'
        · subst h'; exact absurd ⟨by simp, by simp⟩ hskip
        · exact h'
      have hz1 : V.lst true [V.int .u8 ((q : Int) % 256)] = .lst true (bytesV [UInt8.ofNat (q % 256)]) := by
        rw [← hcw, wrapu8, ← ofNat_mod]; rfl
      have hl8 : (numB (q / 256)).length ≤ 8 := numB_len 8 (by
        have : n / 256 ^ j ≤ n := Nat.div_le_self _ _
        have h8 : (256 : Nat) ^ 8 = 18446744073709551616 := by decide
        rw [h8]; omega)
      obtain ⟨v', g', a1, a2, a3, _, _, _⟩ := Own.app (bt := 1) (ty := none) (a := .lst true (bytesV [UInt8.ofNat (q % 256)])) hf.1 ho (Fz.bytes true [UInt8.ofNat (q % 256)] h').1 rfl (by simp; unfold room; omega)
      have fin : Own g' h.length 1 false v' (numB q).length (bytesV (numB q)) := by
        rw [numB_pos hq00, bytesV_append, List.length_append]; exact a2
      by_cases hc : (q : Int) % 256 = 0
      · have hb : ((q : Int) % 256 != 0) = false := by simp [hc]
        have hlen0 : 0 < (numB (q / 256)).length := by rw [hpos]; exact fun e => hskip ⟨hc, e⟩
        simp [h0, h3, h4, hi0, hc8, hsh, hmin, hfd, cviV, hcw, hb, wanted, ho.sl.len, hlen0, fillV, V.cells, V.one, setAll, chunk, hz1, a1]
        refine ⟨j, by omega, v', by omega, by simp [h0], by simp, by simp [hw], rfl, by rw [hq]; exact fin, hf.trans a3⟩
      · have hb : ((q : Int) % 256 != 0) = true := by simp [hc]
        simp [h0, h3, h4, hi0, hc8, hsh, hmin, hfd, cviV, hcw, hb, wanted, fillV, V.cells, V.one, setAll, chunk, hz1, a1]
        refine ⟨j, by omega, v', by omega, by simp [h0], by simp, by simp [hw], rfl, by rw [hq]; exact fin, hf.trans a3⟩

theorem num_spec {h : Hp} {n : Nat} (hn : n < 18446744073709551616) (hlow : LowH h.length h) : ACalls FX 35 [.int .u64 n] h (fun r h' => r = .ret (.str (numB n)) ∧ h' = h) :=
  (num_spec0 hn).cut hlow fun r hr => by subst hr; exact .str _

end Go.Proofs.Ytpefpiccljohlaa
