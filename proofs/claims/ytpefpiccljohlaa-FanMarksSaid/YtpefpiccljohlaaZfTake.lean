/- What package fan takes. -/
import Derived.Test.YtpefpiccljohlaaZfMark
namespace Go.Proofs.Ytpefpiccljohlaa
open Go.Vs Go.RowKit
set_option linter.unusedSimpArgs false
set_option linter.unusedVariables false

/-- What is taken of a payload: the marks then, the number, the text, the error. -/
def takeF (ms : List Mk) (fr pl : List UInt8) : List Mk × Nat × List UInt8 × Int := match takeB pl 70 2 with
  | none => (ms, 0, [], 4)
  | some l => match readN (l[0]?.getD []) with
    | none => (ms, 0, [], 4)
    | some id => if (fr, id) ∈ ms then (ms, 0, [], 10) else ((ms ++ [(fr, id)]).drop (ms.length + 1 - 100), id, l[1]?.getD [], 0)

/-- .. as it is answered. -/
def TakeM (x : List Mk × Nat × List UInt8 × Int) : Res → Prop := fun r => ∃ v, r = .ret (.tup [v, .int .u64 x.2.1, .str x.2.2.1, .int .i64 x.2.2.2]) ∧ Fz 2 v x.1.length (mks x.1)

theorem Ice.tup4 {h : Hp} {k : Nat} {a b c d a' b' c' d' : V} (h1 : Ice h k a a') (h2 : Ice h k b b') (h3 : Ice h k c c') (h4 : Ice h k d d') : Ice h k (.tup [a, b, c, d]) (.tup [a', b', c', d']) := by
  refine .tup _ _ rfl fun j x y hx hy => ?_
  match j with
  | 0 => simp at hx hy; subst hx; subst hy; exact h1
  | 1 => simp at hx hy; subst hx; subst hy; exact h2
  | 2 => simp at hx hy; subst hx; subst hy; exact h3
  | 3 => simp at hx hy; subst hx; subst hy; exact h4
  | j + 4 => simp at hx

theorem TakeM.of {x : X} {f : FuncId} {args : List V} {h : Hp} {y : List Mk × Nat × List UInt8 × Int}
    (H : ACalls x f args h fun r h' => ∃ v, r = .ret (.tup [v, .int .u64 y.2.1, .str y.2.2.1, .int .i64 y.2.2.2]) ∧ (Own h' h.length 2 true v y.1.length (mks y.1) ∨ Fz 2 v y.1.length (mks y.1)) ∧ Frm h.length h h') (hlow : LowH h.length h) :
    ACalls x f args h (fun r h' => TakeM y r ∧ h' = h) := by
  refine H.ice fun r h' ⟨v, hr, ho, hf⟩ => ⟨hf.1, hlow.frm hf, ?_⟩
  obtain ⟨v', h1, h2⟩ : ∃ v', Ice h' h.length v v' ∧ Fz 2 v' y.1.length (mks y.1) := by
    rcases ho with ho | ho
    · exact ho.ice (fun h => by cases h) mks_one mks_low
    · exact ⟨v, .low _ ((ho.low mks_low).mono (Nat.zero_le _)), ho⟩
  subst hr
  exact ⟨.ret _, Ice.tup4 h1 (.low _ (.int _ _)) (.low _ (.str _)) (.low _ (.int _ _)), ⟨v', rfl, h2⟩, by rw [hf.2]; simp⟩

theorem two_of {l : List (List UInt8)} (h : l.length = 2) : ∃ a b, l = [a, b] := by
  match l, h with
  | [a, b], _ => exact ⟨a, b, rfl⟩

theorem takeB_two {s : List UInt8} {k : Nat} {l : List (List UInt8)} (h : takeB s k 2 = some l) : ∃ a b, l = [a, b] ∧ a.length ≤ s.length ∧ b.length ≤ s.length := by
  unfold takeB at h
  cases hr : readB s with
  | none => rw [hr] at h; cases h
  | some x =>
    obtain ⟨k', l'⟩ := x
    rw [hr] at h
    simp only at h
    split at h
    · rename_i hc
      cases h
      obtain ⟨a, b, rfl⟩ := two_of hc.2
      refine ⟨a, b, rfl, ?_⟩
      rw [← refSplitB_eq] at hr
      unfold refSplitB at hr
      split at hr
      · rename_i v0 k0 n0 r0
        split at hr
        · rename_i l0 q0 hcut
          split at hr
          · cases hr
            obtain ⟨e, _⟩ := cut_spec _ _ _ _ hcut
            rw [e]
            simp [part]
            omega
          · cases hr
        · cases hr
      · cases hr
    · cases h

theorem low1 {a : V} (h : Low 0 a) : ∀ c ∈ [a], Low 0 c := by simpa using h
theorem low2 {a b : V} (h1 : Low 0 a) (h2 : Low 0 b) : ∀ c ∈ [a, b], Low 0 c := by
  intro c hc; simp at hc; rcases hc with rfl | rfl <;> assumption
theorem low3 {a b d : V} (h1 : Low 0 a) (h2 : Low 0 b) (h3 : Low 0 d) : ∀ c ∈ [a, b, d], Low 0 c := by
  intro c hc; simp at hc; rcases hc with rfl | rfl | rfl <;> assumption

theorem ctakeP {s : List UInt8} {k n : Nat} (hn : s.length < 2 ^ 62) (h : Hp) : ACalls FX 28 [.str s, .int .u8 k, .int .i64 n] h (fun r h' => r = .ret (takeV s k n) ∧ h' = h) :=
  PCalls.at FX.low (P := fun r => r = .ret (takeV s k n)) (ctake_spec hn (LowH.zero _)) (low3 (.str _) (.int _ _) (.int _ _)) h

set_option maxHeartbeats 4000000 in
theorem fanTake_spec {s : V} {ms : List Mk} {fr pl : List UInt8} (H : Fz 2 s ms.length (mks ms)) (hn : ms.length < 2 ^ 40) (hp : pl.length < 2 ^ 40) :
    PCalls FX 15 [s, .str fr, .str pl] (TakeM (takeF ms fr pl)) := by
  refine TakeM.of ?_ (LowH.zero _)
  refine acall FX.ok ck15 rfl ?_
  simp [F15]
  refine (cloneM_spec (H _) (by unfold room; omega)).mono ?_
  rintro r h1 ⟨v, rfl, ho, hf⟩
  simp
  refine (ctakeP (k := 70) (n := 2) (by omega) h1).mono ?_
  rintro r h2 ⟨rfl, rfl⟩
  unfold takeV takeF
  cases hb : takeB pl 70 2 with
  | none =>
    simp [extV]
    exact ⟨.inl ho, hf⟩
  | some l =>
    obtain ⟨a, b, rfl, hal, hbl⟩ := takeB_two hb
    have hfz : frz [a, b] = .lst false [.str a, .str b] := rfl
    simp [extV, hfz, iadV, V.cells, rd, sub, asV]
    refine (readNum_spec (by omega)).mono ?_
    rintro r h3 ⟨rfl, rfl⟩
    unfold readV
    cases hr : readN a with
    | none =>
      simp [extV]
      exact ⟨.inl ho, hf⟩
    | some id =>
      have hmk : V.agg [.str fr, .int .u64 id] = mkV (fr, id) := rfl
      simp [extV, fillV, V.cells, V.one, setAll, hmk]
      refine (containsM_spec0 ho.sl (by omega)).mono ?_
      rintro r h4 ⟨rfl, hf4⟩
      have ho4 := Own.frm ho hf4
      by_cases hm : (fr, id) ∈ ms
      · simp [hm]
        exact ⟨.inl ho4, Nat.zero_le _, by simp⟩
      · obtain ⟨v', h5, a1, a2, a3, a4, a5, a6⟩ := Own.app (h := h4) (k := 0) (es := 2) (bt := 24) (ag := true) (ty := none) (v := v) (a := .lst true [mkV (fr, id)]) (m := 1) (zs := mkC (fr, id)) (Nat.zero_le _) ho4 (by simp [src, flat, V.cells, mkV, mkC]) rfl (by unfold room; omega)
        have hch : chunk 2 true 1 (mkC (fr, id)) = [mkV (fr, id)] := rfl
        have hfi : fillV [V.str [], V.int .u64 0] [(0, 1, V.str fr), (1, 1, V.int .u64 id)] = some (mkC (fr, id)) := by simp [fillV, V.cells, V.one, setAll, mkC]
        have hfi2 : fillV [V.str [], V.int .u64 0] [(0, 2, mkV (fr, id))] = some (mkC (fr, id)) := by simp [fillV, V.cells, V.one, setAll, mkC, mkV]
        have hag : V.agg (mkC (fr, id)) = mkV (fr, id) := rfl
        simp [hm, hfi, hfi2, hag, hch, a1, a2.sl.len]
        have hw : IntKind.i64.wrap ((ms.length : Int) + 1 - 100) = (ms.length : Int) + 1 - 100 := by rw [wrap64 (by omega) (by omega)]
        have hmx : maxV h5 (.int .i64 ((ms.length : Int) + 1 - 100)) (.int .i64 0) = some (.val (.int .i64 ((ms.length + 1 - 100 : Nat) : Int)) h5) := by
          simp only [maxV, if_true]
          by_cases h100 : (0 : Int) > (ms.length : Int) + 1 - 100
          · rw [if_pos h100]; congr 3; omega
          · rw [if_neg h100]; congr 3; omega
        have hd := deleteM_spec (k := 0) (j := ms.length + 1 - 100) (ms := ms ++ [(fr, id)]) (n := ms.length + 1) (Nat.zero_le _) (by rw [mks_append]; exact a2) (by omega) (by omega)
        simp [hw, hmx, iadV, V.cells, rd, sub, asV]
        have fin : ∀ r h', (∃ v, r = Res.ret v ∧ Own h' 0 2 true v (ms.length + 1 - (ms.length + 1 - 100)) (mks ((ms ++ [(fr, id)]).drop (ms.length + 1 - 100))) ∧ Frm 0 h5 h') → True := fun _ _ _ => trivial
        refine ⟨?_, ?_⟩
        · refine hd.mono ?_
          rintro r h6 ⟨v6, rfl, ho6, hf6⟩
          simp [rd, sub, asV]
          exact ⟨.inl (by simpa using ho6), Nat.zero_le _, by simp⟩
        · refine hd.mono ?_
          rintro r h6 ⟨v6, rfl, ho6, hf6⟩
          simp [rd, sub, asV]
          exact ⟨.inl (by simpa using ho6), Nat.zero_le _, by simp⟩

end Go.Proofs.Ytpefpiccljohlaa
