/- What the reference of package codec splits. -/
import Derived.Test.YtpefpiccljohlaaZfNum
namespace Go.Proofs.Ytpefpiccljohlaa
open Go.Vs Go.RowKit
set_option linter.unusedSimpArgs false
set_option linter.unusedVariables false

/-- So many texts, cut off a text, and what is left. -/
def cut : Nat → List UInt8 → Option (List (List UInt8) × List UInt8)
  | 0, s => some ([], s)
  | n + 1, a :: b :: r => if a.toNat * 256 + b.toNat ≤ r.length then (cut n (r.drop (a.toNat * 256 + b.toNat))).map fun x => (r.take (a.toNat * 256 + b.toNat) :: x.1, x.2) else none
  | _ + 1, _ => none

def refSplitB (s : List UInt8) : Option (UInt8 × List (List UInt8)) := match s with
  | _ :: k :: n :: r => match cut n.toNat r with
    | some (l, _) => if (joinR k l).2 = 0 ∧ (joinR k l).1 = s then some (k, l) else none
    | none => none
  | _ => none

theorem part_of {a b : UInt8} {p : List UInt8} (h : p.length = a.toNat * 256 + b.toNat) : part p = a :: b :: p := by
  have ha := a.toNat_lt
  have hb := b.toNat_lt
  unfold part
  rw [h, show (a.toNat * 256 + b.toNat) / 256 = a.toNat by omega, show (a.toNat * 256 + b.toNat) % 256 = b.toNat by omega]
  simp

theorem cut_spec : ∀ (n : Nat) (r : List UInt8) (l : List (List UInt8)) (q : List UInt8), cut n r = some (l, q) → r = l.flatMap part ++ q ∧ l.length = n
  | 0, r, l, q, h => by simp [cut] at h; obtain ⟨rfl, rfl⟩ := h; simp
  | n + 1, [], l, q, h => by simp [cut] at h
  | n + 1, [a], l, q, h => by simp [cut] at h
  | n + 1, a :: b :: r, l, q, h => by
    simp only [cut] at h
    split at h
    · rename_i hle
      simp only [Option.map_eq_some_iff, Prod.mk.injEq] at h
      obtain ⟨⟨l', q'⟩, h1, rfl, rfl⟩ := h
      obtain ⟨e1, e2⟩ := cut_spec n _ l' q' h1
      have hp := part_of (a := a) (b := b) (p := r.take (a.toNat * 256 + b.toNat)) (by simp; omega)
      refine ⟨?_, by simp [e2]⟩
      simp only [List.flatMap_cons, hp, List.cons_append, List.append_assoc]
      rw [← e1, List.take_append_drop]
    · cases h

theorem readParts_cut : ∀ (n : Nat) (r : List UInt8), readParts n r = match cut n r with
    | some (l, q) => if l.all (fun p => p.length ≤ 4000) then some (l, q) else none
    | none => none
  | 0, r => by simp [readParts, cut]
  | n + 1, [] => by simp [readParts, cut]
  | n + 1, [a] => by simp [readParts, cut]
  | n + 1, a :: b :: r => by
    simp only [readParts, cut]
    have ih := readParts_cut n (r.drop (a.toNat * 256 + b.toNat))
    by_cases h2 : a.toNat * 256 + b.toNat ≤ r.length
    · rw [if_pos h2, ih]
      cases hc : cut n (r.drop (a.toNat * 256 + b.toNat)) with
      | none => simp
      | some x =>
        obtain ⟨l, q⟩ := x
        simp only [Option.map_some, List.all_cons]
        have hl : (r.take (a.toNat * 256 + b.toNat)).length = a.toNat * 256 + b.toNat := by simp; omega
        by_cases h1 : a.toNat * 256 + b.toNat ≤ 4000
        · rw [if_pos ⟨h1, h2⟩]
          simp only [hl, h1]
          by_cases h4 : (l.all fun p => decide (p.length ≤ 4000)) = true
          · simp [h4]
          · simp [h4]
        · rw [if_neg (by omega)]
          simp only [hl, h1]
          simp
    · rw [if_neg (by omega), if_neg h2]

theorem refSplitB_eq (s : List UInt8) : refSplitB s = readB s := by
  match s with
  | [] => simp [refSplitB, readB]
  | [_] => simp [refSplitB, readB]
  | [_, _] => simp [refSplitB, readB]
  | v :: k :: n :: r =>
    simp only [refSplitB, readB]
    rw [readParts_cut]
    have hn := n.toNat_lt
    cases hc : cut n.toNat r with
    | none => simp
    | some x =>
      obtain ⟨l, q⟩ := x
      obtain ⟨e1, e2⟩ := cut_spec _ _ _ _ hc
      have h255 : ¬ 255 < l.length := by omega
      have hjl : (joinB k l).length + q.length = (v :: k :: n :: r).length := by rw [e1]; simp [joinB]; omega
      have hon : UInt8.ofNat l.length = n := by rw [e2]; simp
      simp only []
      by_cases hall : l.all (fun p => p.length ≤ 4000) = true
      · have hany : l.any (fun s => 4000 < s.length) = false := by
          rw [List.any_eq_false]; intro p hp
          rw [List.all_eq_true] at hall
          have := hall p hp
          simp at this ⊢; omega
        rw [if_pos hall]
        simp only [joinR, h255, hany, if_false, Bool.false_eq_true]
        cases q with
        | nil =>
          simp only [List.length_nil, Nat.add_zero] at hjl
          rw [hjl]
          by_cases h30 : (v :: k :: n :: r).length ≤ 30000
          · have h30' : ¬ 30000 < (v :: k :: n :: r).length := by omega
            by_cases hv : v = 1
            · have : joinB k l = v :: k :: n :: r := by simp [joinB, hon, e1, hv]
              rw [if_neg h30', if_pos h30, if_pos hv, if_pos ⟨rfl, this⟩]
            · have : joinB k l ≠ v :: k :: n :: r := by simp [joinB]; intro e; exact absurd e.symm hv
              rw [if_neg h30', if_pos h30, if_neg hv, if_neg (fun h => this h.2)]
          · have h30' : 30000 < (v :: k :: n :: r).length := by omega
            rw [if_pos h30', if_neg h30, if_neg (by simp)]
        | cons q0 q' =>
          have : (joinB k l) ≠ v :: k :: n :: r := fun e => by rw [e] at hjl; simp at hjl
          have e : ¬ ((if 30000 < (joinB k l).length then (([], 3) : List UInt8 × Int) else (joinB k l, 0)).2 = 0 ∧ (if 30000 < (joinB k l).length then (([], 3) : List UInt8 × Int) else (joinB k l, 0)).1 = v :: k :: n :: r) := by
            intro ⟨h1, h2⟩
            split at h2
            · simp at h2
            · exact this h2
          rw [if_neg e]
          split
          · split <;> rfl
          · rfl
      · rw [if_neg hall]
        have hany : l.any (fun s => 4000 < s.length) = true := by
          rw [List.all_eq_true] at hall
          rw [List.any_eq_true]
          refine Classical.byContradiction fun hc => hall fun p hp => ?_
          refine Classical.byContradiction fun hq => hc ⟨p, hp, by simp at hq ⊢; omega⟩
        simp [joinR, h255, hany]

def refSplitInv (h : Hp) (s : List UInt8) (cnt : Nat) (m : Nat) (st : St) : Prop :=
  ∃ (i at' : Nat) (v : V) (ps : List (List UInt8)), m + i = cnt ∧ at' ≤ s.length ∧ st.t 0 = .str s ∧ st.t 5 = v ∧ st.t 6 = .int .i64 at' ∧ st.t 7 = .int .i64 i ∧ st.d = [] ∧ Frm h.length h st.h ∧
    Own st.h h.length 1 false v ps.length (ps.map .str) ∧ (ps = [] → v = .nsl) ∧ ps.length = i ∧ cut cnt (s.drop 3) = (cut m (s.drop at')).map fun x => (ps ++ x.1, x.2)

/-- What the reference's 'Split' answers, ahead of the freezing. -/
def RefSplitRes (h : Hp) (s : List UInt8) : Res → Hp → Prop := fun r h' => Frm h.length h h' ∧ match refSplitB s with
  | some (k, l) => ∃ v, r = .ret (.tup [.int .u8 k.toNat, v, .int .i64 0]) ∧ Own h' h.length 1 false v l.length (l.map .str) ∧ (l = [] → v = .nsl)
  | none => r = .ret (.tup [.int .u8 0, .nsl, .int .i64 4])

theorem getD_at {s : List UInt8} {a : UInt8} {q : List UInt8} {i : Nat} (h : s.drop i = a :: q) : s[i]?.getD 0 = a ∧ i < s.length ∧ s.drop (i + 1) = q := by
  have hi : i < s.length := by
    rcases Nat.lt_or_ge i s.length with h' | h'
    · exact h'
    · rw [List.drop_eq_nil_of_le h'] at h; cases h
  rw [List.drop_eq_getElem_cons hi] at h
  injection h with h1 h2
  refine ⟨?_, hi, h2⟩
  rw [List.getElem?_eq_getElem hi]; exact h1

set_option maxHeartbeats 4000000 in
theorem refSplit_spec0 {h : Hp} {s : List UInt8} (hn : s.length < 2 ^ 40) : ACalls FX 32 [.str s] h (RefSplitRes h s) := by
  refine acall FX.ok ck32 rfl ?_
  simp [F32]
  match hs : s with
  | [] => simp [RefSplitRes, refSplitB, Frm.refl]
  | [_] => simp [RefSplitRes, refSplitB, Frm.refl]
  | [_, _] => simp [RefSplitRes, refSplitB, Frm.refl]
  | v0 :: k0 :: n0 :: s3 =>
    rw [← hs]
    have h3 : ¬ ((s.length : Int) < 3) := by rw [hs]; simp; omega
    have hl3 : 3 ≤ s.length := by rw [hs]; simp
    have hd3 : s.drop 3 = s3 := by rw [hs]; rfl
    have hg2 : s[2]?.getD 0 = n0 := by rw [hs]; rfl
    have hg1 : s[1]?.getD 0 = k0 := by rw [hs]; rfl
    have hrb : refSplitB s = match cut n0.toNat s3 with
      | some (l, _) => if (joinR k0 l).2 = 0 ∧ (joinR k0 l).1 = s then some (k0, l) else none
      | none => none := by rw [hs]; rfl
    rw [← hs] at hn
    clear hs
    have hn0 := n0.toNat_lt
    simp [h3]
    refine vc_loop _ _ _ (refSplitInv h s n0.toNat) n0.toNat ⟨0, 3, .nsl, [], by omega, by omega, by simp, by simp, by simp, by simp, rfl, Frm.refl (Nat.le_refl _), ⟨rfl, .inl ⟨rfl, rfl⟩⟩, fun _ => rfl, rfl, by simp⟩ ?_
    rintro m ⟨t, h', d⟩ ⟨i, p, v, ps, hm, hp, h0, h5, h6, h7, hd, hf, ho, hv, hpi, hcut⟩
    simp only at h0 h5 h6 h7 hd hf ho
    subst hd
    rw [hd3] at hcut
    have h2l : (2 : Int) < s.length := by omega
    have h1l : (1 : Int) < s.length := by omega
    cases m with
    | zero =>
      have hi : ¬ i < n0.toNat := by omega
      simp [h0, h5, h6, h7, idxsV, h2l, h1l, hg2, hg1, cviV, wrapByte, hi]
      have hc : cut n0.toNat s3 = some (ps, s.drop p) := by rw [hcut]; simp [cut]
      refine (refJoinS_spec ho.sl (by omega)).mono ?_
      rintro r h'' ⟨rfl, rfl⟩
      rw [hc] at hrb
      by_cases hj : (joinR k0 ps).2 = 0
      · by_cases hjs : (joinR k0 ps).1 = s
        · simp [extV, hj, hjs, wanted, h0, h5, idxsV, h1l, hg1, strBin]
          simp [RefSplitRes, hrb, hj, hjs]
          exact ⟨hf, ho, hv⟩
        · have hb : ((joinR k0 ps).1 == s) = false := by simpa using hjs
          simp [extV, hj, hb, wanted, h0, h5, idxsV, h1l, hg1, strBin]
          simp [RefSplitRes, hrb, hj, hjs]
          exact hf
      · have hb : ((joinR k0 ps).2 != 0) = true := by simpa using hj
        simp [extV, hb, wanted, h0, h5, idxsV, h1l, hg1, strBin]
        simp [RefSplitRes, hrb, hj]
        exact hf
    | succ m =>
      have hi : i < n0.toNat := by omega
      have hw2 : IntKind.i64.wrap ((p : Int) + 2) = ((p + 2 : Nat) : Int) := by rw [wrap64 (by omega) (by omega)]; omega
      have hw1 : IntKind.i64.wrap ((p : Int) + 1) = ((p + 1 : Nat) : Int) := by rw [wrap64 (by omega) (by omega)]; omega
      have hwi : IntKind.i64.wrap ((i : Int) + 1) = ((i + 1 : Nat) : Int) := by rw [wrap64 (by omega) (by omega)]; omega
      simp [h0, h5, h6, h7, idxsV, h2l, h1l, hg2, hg1, cviV, wrapByte, hi, hw2]
      match hq : s.drop p with
      | [] =>
        have hl : s.length < p + 2 := by have := congrArg List.length hq; simp at this; omega
        have : (s.length : Int) < ((p : Int) + 2) := by omega
        simp [this]
        have hc : cut n0.toNat s3 = none := by rw [hcut, hq]; rfl
        simp [RefSplitRes, hrb, hc]
        exact hf
      | [a] =>
        have hl : s.length < p + 2 := by have := congrArg List.length hq; simp at this; omega
        have : (s.length : Int) < ((p : Int) + 2) := by omega
        simp [this]
        have hc : cut n0.toNat s3 = none := by rw [hcut, hq]; rfl
        simp [RefSplitRes, hrb, hc]
        exact hf
      | a :: b :: r =>
        obtain ⟨ga, hpl, hq1⟩ := getD_at hq
        obtain ⟨gb, hpl1, hq2⟩ := getD_at hq1
        have hrl : r.length + (p + 2) = s.length := by have := congrArg List.length hq2; simp at this; omega
        have : ¬ (s.length : Int) < ((p : Int) + 2) := by omega
        have c1 : (p : Int) < s.length := by omega
        have c2 : ((p + 1 : Nat) : Int) < s.length := by omega
        have ha := a.toNat_lt
        have hb := b.toNat_lt
        have hwm : IntKind.i64.wrap (256 * (a.toNat : Int)) = 256 * (a.toNat : Int) := wrap64 (by omega) (by omega)
        obtain ⟨N, hN⟩ : ∃ N : Nat, N = a.toNat * 256 + b.toNat := ⟨_, rfl⟩
        have hwN : IntKind.i64.wrap (256 * (a.toNat : Int) + b.toNat) = (N : Int) := by rw [wrap64 (by omega) (by omega)]; omega
        have hwE : IntKind.i64.wrap (((p : Int) + 2) + N) = ((p + 2 + N : Nat) : Int) := by rw [wrap64 (by omega) (by omega)]; omega
        have hcu : cut (m + 1) (s.drop p) = if N ≤ r.length then (cut m (r.drop N)).map fun x => (r.take N :: x.1, x.2) else none := by rw [hq, hN]; rfl
        have hw1' : IntKind.i64.wrap ((p : Int) + 1) = (p : Int) + 1 := by rw [wrap64 (by omega) (by omega)]
        have c5 : (0 : Int) ≤ (p : Int) + 1 ∧ (p : Int) + 1 < s.length := ⟨by omega, by omega⟩
        have c6 : ((p : Int) + 1).toNat = p + 1 := by omega
        have c7 : (0 : Int) ≤ (p : Int) ∧ (p : Int) < s.length := ⟨by omega, by omega⟩
        have e1 : idxsV h' (.str s) (.int .i64 p) = some (.val (.int .u8 a.toNat) h') := by simp only [idxsV]; rw [if_pos c7]; simp [ga]
        have e2 : idxsV h' (.str s) (.int .i64 ((p : Int) + 1)) = some (.val (.int .u8 b.toNat) h') := by simp only [idxsV]; rw [if_pos c5, c6]; simp [gb]
        simp [this, h0, h6, hw2, hw1', e1, e2, cviV, wrapByte, hwm, hwN, hwE]
        by_cases hNl : N ≤ r.length
        · have c3 : ¬ (s.length : Int) < ((p : Int) + 2 + N) := by omega
          have c4 : p + 2 + N ≤ s.length := by omega
          obtain ⟨v', h2, a1, a2, a3, a4, a5, a6⟩ := Own.app (h := h') (k := h.length) (es := 1) (bt := 16) (ag := false) (ty := none) (v := v) (a := .lst true [.str ((s.take (p + 2 + N)).drop (p + 2))]) (m := 1) (zs := [.str ((s.take (p + 2 + N)).drop (p + 2))]) hf.1 ho (by simp [src, flat, V.cells]) rfl (by unfold room; omega)
          have c8 : p + 2 ≤ p + 2 + N := by omega
          have c9 : (((p : Int) + 2 + N)).toNat = p + 2 + N := by omega
          have c10 : ((p : Int) + 2).toNat = p + 2 := by omega
          have c11 : (0 : Int) ≤ (p : Int) + 2 + N := by omega
          have c12 : (0 : Int) ≤ (p : Int) + 2 := by omega
          simp [c3, h0, h5, h6, hw2, hwE, V.isStr, slcV, c4, c9, c10, c11, c12, upTo, fillV, V.cells, V.one, setAll, chunk, a1, h7, hwi]
          have hpe : (s.take (p + 2 + N)).drop (p + 2) = r.take N := by
            rw [List.drop_take, hq2]; congr 1; omega
          refine ⟨m, by omega, i + 1, p + 2 + N, v', ps ++ [r.take N], by omega, by omega, by simp [h0], by simp, by simp, by simp, rfl, hf.trans a3, ?_, by simp, by simp [hpi], ?_⟩
          · rw [hpe] at a2; simpa using a2
          · rw [hd3, hcut, hcu, if_pos hNl, ← List.drop_drop, hq2]
            cases cut m (r.drop N) <;> simp
        · have c3 : (s.length : Int) < ((p : Int) + 2 + N) := by omega
          simp [c3]
          have hc : cut n0.toNat s3 = none := by rw [hcut, hcu, if_neg hNl]; rfl
          simp [RefSplitRes, hrb, hc]
          exact hf

theorem refSplit_spec {h : Hp} {s : List UInt8} (hn : s.length < 2 ^ 40) (hlow : LowH h.length h) : ACalls FX 32 [.str s] h (fun r h' => r = .ret (splitV s) ∧ h' = h) := by
  refine (refSplit_spec0 hn).ice fun r h' ⟨hf, hr⟩ => ⟨hf.1, hlow.frm hf, ?_⟩
  rw [refSplitB_eq] at hr
  unfold splitV
  cases hb : readB s with
  | some x =>
    obtain ⟨k, l⟩ := x
    rw [hb] at hr
    obtain ⟨v, rfl, ho, h0⟩ := hr
    exact ⟨.ret (.tup [.int .u8 k.toNat, frz l, .int .i64 0]), Ice.tup3 (.low _ (.int _ _)) (Own.frz ho h0) (.low _ (.int _ _)), rfl, by rw [hf.2]; simp⟩
  | none =>
    rw [hb] at hr
    subst hr
    exact ⟨.ret (.tup [.int .u8 0, .nsl, .int .i64 4]), Ice.tup3 (.low _ (.int _ _)) (.low _ .nsl) (.low _ (.int _ _)), rfl, by rw [hf.2]; simp⟩

end Go.Proofs.Ytpefpiccljohlaa
