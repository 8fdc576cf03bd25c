/- What package codec reads: 'read' itself. -/
import Derived.Test.YtpefpiccljohlaaZfRead
namespace Go.Proofs.Ytpefpiccljohlaa
open Go.Vs Go.RowKit
set_option linter.unusedSimpArgs false
set_option linter.unusedVariables false

/-- What 'read' answers: what is read, or that it has not its form. -/
def ReadRes (h : Hp) (s : List UInt8) : Res → Hp → Prop := fun r h' => Frm h.length h h' ∧ match readB s with
  | some (k, l) => ∃ v, r = .ret (.tup [.int .u8 k.toNat, v, .int .i64 0]) ∧ Own h' h.length 1 false v l.length (l.map .str) ∧ (l = [] → v = .nsl)
  | none => ∃ k v n ps, r = .ret (.tup [.int .u8 k, v, .int .i64 4]) ∧ Own h' h.length 1 false v n (List.map V.str ps)

/-- What the heap holds while 'read' runs. -/
def RS (h0 hh : Hp) (q : List UInt8) (v : V) (n : Nat) (ps : List (List UInt8)) : Prop :=
  Frm h0.length h0 hh ∧ h0.length + 1 < hh.length ∧ hget hh h0.length = some (.cells [.int .i64 0] none) ∧ hget hh (h0.length + 1) = some (.cells [.str q] none) ∧
    Own hh h0.length 1 false v n (ps.map .str) ∧ v.blk ≠ some h0.length ∧ v.blk ≠ some (h0.length + 1) ∧ (ps = [] → v = .nsl)

theorem Own.keep {h h' : Hp} {k es : Nat} {ag : Bool} {v : V} {n : Nat} {ys : List V} (H : Own h k es ag v n ys) (hh : ∀ b, v.blk = some b → hget h' b = hget h b) : Own h' k es ag v n ys := by
  obtain ⟨hl, h1 | h1 | ⟨b, cap, ex, rest, ty, rfl, hb, hg, hc, hce⟩⟩ := H
  · exact ⟨hl, .inl h1⟩
  · exact ⟨hl, .inr (.inl h1)⟩
  · exact ⟨hl, .inr (.inr ⟨b, cap, ex, rest, ty, rfl, hb, by rw [hh b rfl]; exact hg, hc, hce⟩)⟩

theorem RS.step {h0 hh : Hp} {q q' : List UInt8} {v : V} {n : Nat} {ps : List (List UInt8)} (H : RS h0 hh q v n ps) : RS h0 (hh.set (h0.length + 1) (some (.cells [.str q'] none))) q' v n ps := by
  obtain ⟨h1, h2, h3, h4, h5, h6, h7, h8⟩ := H
  refine ⟨h1.trans (Frm.set h1.1 (by omega) _), by simpa using h2, by rw [hget_set_ne (by omega)]; exact h3, hget_set h2 _, Own.keep h5 fun b hb => hget_set_ne (fun e => ?_) _, h6, h7, h8⟩
  rw [← e] at hb; exact h7 hb

theorem RS.fail {h0 hh : Hp} {q s : List UInt8} {v : V} {n : Nat} {ps : List (List UInt8)} (H : RS h0 hh q v n ps) {t : Nat → V} {k : Int} (h2 : t 2 = .int .u8 k) (h3 : t 3 = v) (h4 : t 4 = .ptr h0.length 0) (hr : readB s = none) :
    lvs FX [RV.t 2, RV.t 3, RV.c 4 1 false] t (ReadRes h0 s) [(48, [.ptr h0.length 0])] (some formP) hh := by
  obtain ⟨a1, a2, a3, a4, a5, a6, a7, a8⟩ := H
  simp only [lvs]
  refine caught_some a3 ?_
  have hl : h0.length < hh.length := by omega
  simp [lvs, resV, getAll, RV.get, h2, h3, h4, rd, hget_set hl, sub, asV, ReadRes, hr]
  refine ⟨a1.trans (Frm.set a1.1 (Nat.le_refl _) _), k, v, ⟨rfl, rfl⟩, n, ps, Own.keep a5 fun b hb => hget_set_ne (fun e => ?_) _⟩
  rw [← e] at hb; exact a6 hb

theorem RS.byte {h0 hh : Hp} {q : List UInt8} {v : V} {n : Nat} {ps : List (List UInt8)} (H : RS h0 hh q v n ps) (hq : q.length < 2 ^ 62) :
    ACalls FX 50 [.ptr (h0.length + 1) 0] hh (fun r h' => match q with
      | c :: q' => r = .ret (.int .i64 c.toNat) ∧ RS h0 h' q' v n ps
      | [] => r = .pan formP ∧ h' = hh) := by
  refine (byte_spec ⟨none, H.2.2.2.1⟩ hq).mono fun r h' hr => ?_
  cases q with
  | nil => exact hr
  | cons c q' =>
    obtain ⟨h1, ty, h2, rfl⟩ := hr
    rw [H.2.2.2.1] at h2
    simp at h2
    subst h2
    exact ⟨h1, H.step⟩

theorem RS.take {h0 hh : Hp} {q : List UInt8} {v : V} {n m : Nat} {ps : List (List UInt8)} (H : RS h0 hh q v n ps) (hq : q.length < 2 ^ 62) :
    ACalls FX 51 [.ptr (h0.length + 1) 0, .int .i64 m] hh (fun r h' => if m ≤ q.length then r = .ret (.str (q.take m)) ∧ RS h0 h' (q.drop m) v n ps else r = .pan formP ∧ h' = hh) := by
  refine (take_spec ⟨none, H.2.2.2.1⟩ hq).mono fun r h' hr => ?_
  by_cases hm : m ≤ q.length
  · rw [if_pos hm] at hr ⊢
    obtain ⟨h1, ty, h2, rfl⟩ := hr
    rw [H.2.2.2.1] at h2
    simp at h2
    subst h2
    exact ⟨h1, H.step⟩
  · rw [if_neg hm] at hr ⊢
    exact hr


theorem RS.push {h0 hh : Hp} {q p : List UInt8} {v : V} {ps : List (List UInt8)} (H : RS h0 hh q v ps.length ps) (hn : ps.length ≤ 300) :
    ∃ v' h', appR hh 1 16 false none v (.lst true [.str p]) = some (.val v' h') ∧ RS h0 h' q v' (ps ++ [p]).length (ps ++ [p]) := by
  obtain ⟨h1, h2, h3, h4, h5, h6, h7, h8⟩ := H
  obtain ⟨v', h', a1, a2, a3, a4, a5, a6⟩ := Own.app (h := hh) (k := h0.length) (es := 1) (bt := 16) (ag := false) (ty := none) (v := v) (a := .lst true [.str p]) (m := 1) (zs := [.str p]) h1.1 h5 (by simp [src, flat, V.cells]) rfl (by unfold room; omega)
  refine ⟨v', h', a1, h1.trans a3, by omega, by rw [a4 _ (by omega) h6]; exact h3, by rw [a4 _ h2 h7]; exact h4, by simpa using a2, ?_, ?_, by simp⟩
  · rcases a5 with e | e <;> rw [e]
    · exact h6
    · intro e'; injection e' with e'; omega
  · rcases a5 with e | e <;> rw [e]
    · exact h7
    · intro e'; injection e' with e'; omega

theorem readB_ver {c : UInt8} {q : List UInt8} (h : c ≠ 1) : readB (c :: q) = none := by
  unfold readB
  split
  · match q with
    | [] => rfl
    | [_] => rfl
    | _ :: _ :: _ => simp [h]
  · rfl

theorem readB_short0 {c : UInt8} : readB [c] = none := by simp [readB]
theorem readB_short1 {c d : UInt8} : readB [c, d] = none := by simp [readB]

theorem wrapu8_byte (c : UInt8) : IntKind.u8.wrap (c.toNat : Int) = c.toNat := by rw [wrapu8]; simp

def readInv (h : Hp) (k0 : UInt8) (cnt : Nat) (s3 : List UInt8) (m : Nat) (st : St) : Prop :=
  ∃ (i : Nat) (q : List UInt8) (v : V) (ps : List (List UInt8)), m + i = cnt ∧ st.t 2 = .int .u8 k0.toNat ∧ st.t 3 = v ∧ st.t 4 = .ptr h.length 0 ∧ st.t 5 = .ptr (h.length + 1) 0 ∧ st.t 22 = .int .i64 cnt ∧ st.t 23 = .int .i64 i ∧
    st.d = [(48, [.ptr h.length 0])] ∧ RS h st.h q v ps.length ps ∧ q.length ≤ 30000 ∧ i + q.length ≤ 30000 ∧ readParts cnt s3 = (readParts m q).map (fun x => (ps ++ x.1, x.2)) ∧ ps.length = i

theorem readB_three {c k n : UInt8} {r : List UInt8} (hc : c = 1) (hl : (c :: k :: n :: r).length ≤ 30000) : readB (c :: k :: n :: r) = match readParts n.toNat r with
    | some (l, []) => some (k, l)
    | _ => none := by
  subst hc
  unfold readB
  rw [if_pos hl]
  simp only [if_true]
  split <;> simp_all

set_option maxHeartbeats 2000000 in
theorem read_spec0 {h : Hp} {s : List UInt8} (hn : s.length < 2 ^ 62) : ACalls FX 45 [.str s] h (ReadRes h s) := by
  refine acallD FX.ok ck45 rfl ?_
  simp [F45]
  refine need_spec.mono ?_
  rintro r h1 ⟨rfl, rfl⟩
  by_cases h30 : s.length ≤ 30000
  · have : (s.length : Int) ≤ 30000 := by omega
    simp [this, fillV, V.cells, V.one, setAll]
    have R0 : RS h (h ++ [some (.cells [.int .i64 0] none), some (.cells [.str s] none)]) s .nsl 0 [] := by
      refine ⟨Frm.append (Nat.le_refl _) _, by simp, ?_, ?_, ⟨rfl, .inl ⟨rfl, rfl⟩⟩, by simp [V.blk], by simp [V.blk], fun _ => rfl⟩
      · simp [hget]
      · simp [hget]
    generalize h ++ [some (.cells [.int .i64 0] none), some (.cells [.str s] none)] = g0 at R0
    refine (R0.byte hn).mono fun r g1 hr => ?_
    cases hs : s with
    | nil =>
      rw [hs] at hr
      obtain ⟨rfl, rfl⟩ := hr
      rw [hs] at R0
      simp
      exact R0.fail (by simp; rfl) (by simp) (by simp) (by simp [readB])
    | cons c0 s1 =>
      rw [hs] at hr
      obtain ⟨rfl, R1⟩ := hr
      simp
      refine need_spec.mono ?_
      rintro r g1' ⟨rfl, rfl⟩
      have hn1 : s1.length < 2 ^ 62 := by rw [hs] at hn; simp at hn; omega
      by_cases hv : (c0.toNat : Int) = 1
      · have hv0 : c0 = 1 := UInt8.toNat.inj (by have : c0.toNat = 1 := by omega
                                                 rw [this]; rfl)
        simp [hv]
        refine (R1.byte hn1).mono fun r g2 hr2 => ?_
        cases hs1 : s1 with
        | nil =>
          rw [hs1] at hr2
          obtain ⟨rfl, rfl⟩ := hr2
          simp
          exact R1.fail (by simp; rfl) (by simp) (by simp) readB_short0
        | cons k0 s2 =>
          rw [hs1] at hr2
          obtain ⟨rfl, R2⟩ := hr2
          have hn2 : s2.length < 2 ^ 62 := by rw [hs1] at hn1; simp at hn1; omega
          simp [cviV]
          refine (R2.byte hn2).mono fun r g3 hr3 => ?_
          cases hs2 : s2 with
          | nil =>
            rw [hs2] at hr3
            obtain ⟨rfl, rfl⟩ := hr3
            simp
            exact R2.fail (by simp; rfl) (by simp) (by simp) readB_short1
          | cons n0 s3 =>
            rw [hs2] at hr3
            obtain ⟨rfl, R3⟩ := hr3
            have hl3 : (c0 :: k0 :: n0 :: s3).length ≤ 30000 := by rw [hs, hs1, hs2] at h30; exact h30
            have hrb := readB_three (k := k0) (n := n0) (r := s3) hv0 hl3
            simp only [List.length_cons] at hl3
            simp [wrapu8_byte]
            refine vc_loop _ _ _ (readInv h k0 n0.toNat s3) n0.toNat ⟨0, s3, .nsl, [], by omega, by simp, by simp, by simp, by simp, by simp, by simp, rfl, R3, by omega, by omega, by simp, rfl⟩ ?_
            rintro m ⟨t, h', d⟩ ⟨i, q, v, ps, hm, h2, h3, h4, h5, h22, h23, hd, R, hq, hiq, hrp, hpi⟩
            simp only at h2 h3 h4 h5 h22 h23 hd R
            subst hd
            cases m with
            | zero =>
              have hi : ¬ ((i : Int) < (n0.toNat : Int)) := by omega
              simp [h22, h23, hi, h5, nilV, fadV, rd, R.2.2.2.1, sub, asV, strBin]
              refine need_spec.mono ?_
              rintro r g4 ⟨rfl, rfl⟩
              have hz : readParts n0.toNat s3 = some (ps, q) := by rw [hrp]; simp [readParts]
              cases q with
              | nil =>
                have hl : h.length < g4.length := by have := R.2.1; omega
                simp [stV, h4, wr, V.cells, V.one, setAll, R.2.2.1, lvs, h2, h3]
                refine caught_none ?_
                simp [lvs, resV, getAll, RV.get, h2, h3, h4, rd, hget_set hl, sub, asV, ReadRes, hrb, hz]
                refine ⟨R.1.trans (Frm.set R.1.1 (Nat.le_refl _) _), ?_, R.2.2.2.2.2.2.2⟩
                exact Own.keep R.2.2.2.2.1 fun b hb => hget_set_ne (fun e => by rw [← e] at hb; exact R.2.2.2.2.2.1 hb) _
              | cons q0 q' =>
                simp
                refine R.fail (k := k0.toNat) (by simp [h2]) (by simp [h3]) (by simp [h4]) ?_
                rw [hrb, hz]
            | succ m =>
              have hi : ((i : Int) < (n0.toNat : Int)) := by omega
              simp [h22, h23, hi, h5]
              refine (R.byte (by omega)).mono fun r g4 hr4 => ?_
              cases hqe : q with
              | nil =>
                rw [hqe] at hr4
                obtain ⟨rfl, rfl⟩ := hr4
                simp
                refine R.fail (k := k0.toNat) (by simp [h2]) (by simp [h3]) (by simp [h4]) ?_
                rw [hrb, hrp, hqe]; rfl
              | cons a q1 =>
                rw [hqe] at hr4
                obtain ⟨rfl, R4⟩ := hr4
                have hql : q1.length + 1 ≤ 30000 := by rw [hqe] at hq; simpa using hq
                have hsh : IntKind.i64.wrap ((a.toNat : Int) * 2 ^ min 8 IntKind.i64.bits) = ((a.toNat * 256 : Nat) : Int) := by
                  have h1 : (2 : Int) ^ min 8 IntKind.i64.bits = 256 := by decide
                  have h2 := a.toNat_lt
                  rw [h1, wrap64 (by omega) (by omega)]; omega
                simp [hsh, h5]
                refine (R4.byte (by omega)).mono fun r g5 hr5 => ?_
                cases hqe1 : q1 with
                | nil =>
                  rw [hqe1] at hr5
                  obtain ⟨rfl, rfl⟩ := hr5
                  simp
                  refine R4.fail (k := k0.toNat) (by simp [h2]) (by simp [h3]) (by simp [h4]) ?_
                  rw [hrb, hrp, hqe, hqe1]; rfl
                | cons b q2 =>
                  rw [hqe1] at hr5
                  obtain ⟨rfl, R5⟩ := hr5
                  have ha := a.toNat_lt
                  have hb := b.toNat_lt
                  obtain ⟨N, hN⟩ : ∃ N : Nat, N = a.toNat * 256 + b.toNat := ⟨_, rfl⟩
                  have hw : IntKind.i64.wrap ((a.toNat : Int) * 256 + b.toNat) = (N : Int) := by
                    rw [wrap64 (by omega) (by omega)]; omega
                  have hql2 : q2.length + 1 + 1 ≤ 30000 := by rw [hqe1] at hql; simpa using hql
                  have hrp2 : readParts (m + 1) q = if a.toNat * 256 + b.toNat ≤ 4000 ∧ a.toNat * 256 + b.toNat ≤ q2.length then (readParts m (q2.drop (a.toNat * 256 + b.toNat))).map fun x => (q2.take (a.toNat * 256 + b.toNat) :: x.1, x.2) else none := by
                    rw [hqe, hqe1]; rfl
                  have hiq2 : i + (q2.length + 1 + 1) ≤ 30000 := by rw [hqe, hqe1] at hiq; simpa using hiq
                  rw [← hN] at hrp2
                  simp [h5, hw]
                  refine need_spec.mono ?_
                  rintro r g6 ⟨rfl, rfl⟩
                  by_cases hN4 : N ≤ 4000
                  · have : (N : Int) ≤ 4000 := by omega
                    simp [this, h3, h5]
                    refine (R5.take (m := N) (by omega)).mono fun r g7 hr7 => ?_
                    by_cases hNq : N ≤ q2.length
                    · rw [if_pos hNq] at hr7
                      obtain ⟨rfl, R7⟩ := hr7
                      obtain ⟨v', g8, e8, R8⟩ := R7.push (p := q2.take N) (by have := n0.toNat_lt; omega)
                      have hw1 : IntKind.i64.wrap ((i : Int) + 1) = ((i + 1 : Nat) : Int) := by have := n0.toNat_lt; rw [wrap64 (by omega) (by omega)]; omega
                      simp [fillV, V.cells, V.one, setAll, chunk, e8, h23]
                      refine ⟨m, by omega, i + 1, q2.drop N, v', ps ++ [q2.take N], by omega, by simp [h2], by simp, by simp [h4], by simp [h5], by simp [h22], by simp [hw1], rfl, R8, by simp; omega, by simp; omega, ?_, by simp [hpi]⟩
                      rw [hrp, hrp2, if_pos ⟨hN4, hNq⟩]
                      cases readParts m (q2.drop N) <;> simp
                    · rw [if_neg hNq] at hr7
                      obtain ⟨rfl, rfl⟩ := hr7
                      simp
                      refine R5.fail (k := k0.toNat) (by simp [h2]) (by simp [h3]) (by simp [h4]) ?_
                      rw [hrb, hrp, hrp2, if_neg (by omega)]; rfl
                  · have : ¬ (N : Int) ≤ 4000 := by omega
                    simp [this]
                    refine R5.fail (k := k0.toNat) (by simp [h2]) (by simp [h3]) (by simp [h4]) ?_
                    rw [hrb, hrp, hrp2, if_neg (by omega)]; rfl
      · have hv1 : c0 ≠ 1 := fun e => hv (by rw [e]; rfl)
        simp [hv]
        exact R1.fail (by simp; rfl) (by simp) (by simp) (readB_ver hv1)
  · have : ¬ (s.length : Int) ≤ 30000 := by omega
    simp [this, lvs]
    refine caught_some (β := h.length) (c := .int .i64 0) (ty := none) (hget_new _ _) ?_
    have hr : readB s = none := by simp [readB, h30]
    simp [lvs, resV, getAll, RV.get, rd, hget, sub, asV, ReadRes, hr]
    exact ⟨Frm.append (Nat.le_refl _) _, 0, .nsl, ⟨rfl, rfl⟩, 0, [], rfl, .inl ⟨rfl, rfl⟩⟩

end Go.Proofs.Ytpefpiccljohlaa
