/- Marks, and the functions of package slices on them. -/
import Derived.Test.YtpefpiccljohlaaZfSplit2
namespace Go.Proofs.Ytpefpiccljohlaa
open Go.Vs Go.RowKit
set_option linter.unusedSimpArgs false
set_option linter.unusedVariables false

abbrev Mk := List UInt8 × Nat
def mkC (m : Mk) : List V := [.str m.1, .int .u64 m.2]
def mkV (m : Mk) : V := .agg (mkC m)
def mks (l : List Mk) : List V := l.flatMap mkC
theorem mks_length (l : List Mk) : (mks l).length = l.length * 2 := by
  induction l with
  | nil => rfl
  | cons a r ih => simp only [mks, List.flatMap_cons, List.length_append, List.length_cons] at ih ⊢; rw [ih]; simp [mkC]; omega
theorem mks_append (a b : List Mk) : mks (a ++ b) = mks a ++ mks b := by simp [mks]
theorem mks_one {l : List Mk} : ∀ y ∈ mks l, y.one = true := by
  intro y hy
  obtain ⟨m, _, h⟩ := List.mem_flatMap.1 hy
  simp [mkC] at h
  rcases h with rfl | rfl <;> rfl
theorem mks_low {l : List Mk} : ∀ y ∈ mks l, Low 0 y := by
  intro y hy
  obtain ⟨m, _, h⟩ := List.mem_flatMap.1 hy
  simp [mkC] at h
  rcases h with rfl | rfl
  · exact .str _
  · exact .int _ _
theorem mks_drop (l : List Mk) : ∀ i, (mks l).drop (i * 2) = mks (l.drop i) := by
  induction l with
  | nil => intro i; simp [mks]
  | cons a r ih =>
    intro i
    cases i with
    | zero => simp
    | succ i =>
      rw [show (i + 1) * 2 = i * 2 + 2 by omega]
      simp only [mks, List.flatMap_cons, mkC, List.drop_succ_cons] at ih ⊢
      rw [← ih i]
      rfl
theorem mks_take (l : List Mk) : ∀ i, (mks l).take (i * 2) = mks (l.take i) := by
  induction l with
  | nil => intro i; simp [mks]
  | cons a r ih =>
    intro i
    cases i with
    | zero => simp [mks]
    | succ i =>
      rw [show (i + 1) * 2 = i * 2 + 2 by omega]
      simp only [mks, List.flatMap_cons, mkC, List.take_succ_cons] at ih ⊢
      rw [← ih i]
      rfl
theorem mks_at {l : List Mk} {i : Nat} {m : Mk} (h : l[i]? = some m) : ((mks l).drop (i * 2)).take 2 = mkC m := by
  obtain ⟨hi, rfl⟩ := List.getElem?_eq_some_iff.1 h
  rw [mks_drop, List.drop_eq_getElem_cons hi]
  rfl

/-- The first place of one among others. -/
def posG {α : Type} [BEq α] (ps : List α) (p : α) : Int := match ps.findIdx? (· == p) with
  | some i => (i : Int)
  | none => -1

section
variable {α : Type} [BEq α] [LawfulBEq α]
theorem posG_at {ps : List α} {p : α} {i : Nat} (hi : ps[i]? = some p) (h : ∀ j, j < i → ps[j]? ≠ some p) : posG ps p = i := by
  have : ps.findIdx? (· == p) = some i := by
    rw [List.findIdx?_eq_some_iff_getElem]
    have hl := (List.getElem?_eq_some_iff.1 hi).1
    refine ⟨hl, by simp [(List.getElem?_eq_some_iff.1 hi).2], fun j hj => ?_⟩
    have := h j hj
    rw [List.getElem?_eq_getElem (by omega)] at this
    simpa using this
  simp [posG, this]
theorem posG_none {ps : List α} {p : α} (h : ∀ j, j < ps.length → ps[j]? ≠ some p) : posG ps p = -1 := by
  have : ps.findIdx? (· == p) = none := by
    rw [List.findIdx?_eq_none_iff]
    intro x hx
    obtain ⟨j, hj, rfl⟩ := List.getElem_of_mem hx
    have := h j hj
    rw [List.getElem?_eq_getElem hj] at this
    simpa using this
  simp [posG, this]
theorem posG_mem {ps : List α} {p : α} : 0 ≤ posG ps p ↔ p ∈ ps := by
  unfold posG
  cases h : ps.findIdx? (· == p) with
  | none =>
    rw [List.findIdx?_eq_none_iff] at h
    simp only []
    constructor
    · intro h'; omega
    · intro hm; have := h p hm; simp at this
  | some i =>
    rw [List.findIdx?_eq_some_iff_getElem] at h
    obtain ⟨hi, h1, _⟩ := h
    simp only [beq_iff_eq] at h1
    constructor
    · intro _; rw [← h1]; exact List.getElem_mem hi
    · intro _; exact Int.natCast_nonneg i
end

theorem veq_mk (a b : Mk) : veq (.agg [.str, .num]) (.agg (mkC a)) (.agg (mkC b)) = some (decide (a = b)) := by
  obtain ⟨a1, a2⟩ := a
  obtain ⟨b1, b2⟩ := b
  simp only [veq, mkC, veqs, veq1, if_true, Prod.mk.injEq, Option.some.injEq]
  by_cases h1 : a1 = b1
  · by_cases h2 : a2 = b2
    · simp [h1, h2]
    · have : ((a2 : Int) == b2) = false := by simp; omega
      simp [h1, h2, this]
  · simp [h1]

def indexMInv (h : Hp) (β : Nat) (s : V) (n : Nat) (ms : List Mk) (p : Mk) (m : Nat) (st : St) : Prop :=
  ∃ i : Nat, m + i = n ∧ st.t 0 = s ∧ st.t 3 = .ptr β 0 ∧ st.t 7 = .int .i64 n ∧ st.t 8 = .int .i64 i ∧ st.h = h ∧ st.d = [] ∧ ∀ j, j < i → ms[j]? ≠ some p

theorem Sl.keep {h h' : Hp} {es : Nat} {s : V} {n : Nat} {ys : List V} (H : Sl h es s n ys) (hf : ∀ b, b < h.length → hget h' b = hget h b) : Sl h' es s n ys := by
  obtain ⟨h1, h2, h3⟩ := H
  refine ⟨?_, h2, h3⟩
  unfold src at h1 ⊢
  split at h1 <;> try (exact h1)
  · split at h1
    · rename_i he
      rw [if_pos he]
      simp only [rd] at h1 ⊢
      cases hg : hget h _ with
      | none => rw [hg] at h1; simp at h1
      | some x => rw [hf _ (hget_lt hg)]; exact h1
    · cases h1

theorem Sl.push {h : Hp} {es : Nat} {s : V} {n : Nat} {ys : List V} (H : Sl h es s n ys) (l : Hp) : Sl (h ++ l) es s n ys := Sl.keep H fun b hb => hget_old hb l

set_option maxHeartbeats 1000000 in
theorem indexM_spec0 {h : Hp} {s : V} {n : Nat} {ms : List Mk} {p : Mk} (H : Sl h 2 s n (mks ms)) (hn : n < 2 ^ 62) :
    ACalls FX 40 [s, mkV p] h (fun r h' => r = .ret (.int .i64 (posG ms p)) ∧ Frm h.length h h') := by
  refine acall FX.ok ck40 rfl ?_
  have hpl : ms.length = n := by have := H.ylen; rw [mks_length] at this; omega
  have H' := Sl.push H [some (.cells (mkC p) none)]
  have hl := H'.len
  have hone : ∀ c ∈ (mkV p).cells, c.one = true := by simp [mkV, mkC, V.cells, V.one]
  have hbox : hget (h ++ [some (.cells (mkC p) none)]) h.length = some (.cells (mkC p) none) := hget_new _ _
  have hf : Frm h.length h (h ++ [some (.cells (mkC p) none)]) := Frm.append (Nat.le_refl _) _
  have hcells : (mkV p).cells = mkC p := rfl
  rw [hcells] at hone
  simp [F40, hcells, hone, hl]
  rw [if_pos hone]
  simp [hl]
  generalize h ++ [some (.cells (mkC p) none)] = g at *
  refine vc_loop _ _ _ (indexMInv g h.length s n ms p) n ⟨0, by simp⟩ ?_
  rintro m ⟨t, h', d⟩ ⟨i, hm, h0, h3, h7, h8, hh, hd, hnone⟩
  simp only at h0 h3 h7 h8 hh hd
  subst hh; subst hd
  by_cases hi : i < n
  · obtain ⟨q, hq1, hq2⟩ := H'.at (k := .i64) hi
    have hpi : ms[i]? = some (ms[i]'(by omega)) := List.getElem?_eq_getElem _
    generalize ms[i]'(by omega) = pi at hpi
    rw [mks_at hpi] at hq2
    have hrd : rd h' (.ptr h.length 0) 2 = some (mkC p) := by simp only [rd, hbox, sub]; simp [mkC]
    simp [h0, h3, h7, h8, hi, hrd, hq1, hq2, asV, veq_mk]
    by_cases hp : p = pi
    · subst hp
      simp [h0, h3, h7, h8, posG_at hpi hnone, hf]
    · simp [h0, h3, h7, h8, hp]
      refine ⟨m - 1, by omega, i + 1, by omega, by simp [h0], by simp [h3], by simp [h7], ?_, rfl, rfl, fun j hj => ?_⟩
      · simp [wrap64 (n := (i : Int) + 1) (by omega) (by omega)]
      · by_cases hji : j = i
        · subst hji; rw [hpi]; intro e; cases e; exact hp rfl
        · exact hnone j (by omega)
  · simp [h0, h3, h7, h8, hi, hf]
    rw [posG_none fun j hj => hnone j (by omega)]

theorem indexM_spec {h : Hp} {s : V} {n : Nat} {ms : List Mk} {p : Mk} (H : Sl h 2 s n (mks ms)) (hn : n < 2 ^ 62) (hlow : LowH h.length h) :
    ACalls FX 40 [s, mkV p] h (fun r h' => r = .ret (.int .i64 (posG ms p)) ∧ h' = h) :=
  (indexM_spec0 H hn).cut hlow fun r hr => by subst hr; exact .int _ _

theorem containsM_spec0 {h : Hp} {s : V} {n : Nat} {ms : List Mk} {p : Mk} (H : Sl h 2 s n (mks ms)) (hn : n < 2 ^ 62) :
    ACalls FX 30 [s, mkV p] h (fun r h' => r = .ret (.bool (decide (p ∈ ms))) ∧ Frm h.length h h') := by
  refine acall FX.ok ck30 rfl ?_
  have H' := Sl.push H [some (.cells (mkC p) none)]
  have hone : ∀ c ∈ mkC p, c.one = true := by simp [mkC, V.one]
  have hbox : hget (h ++ [some (.cells (mkC p) none)]) h.length = some (.cells (mkC p) none) := hget_new _ _
  have hf : Frm h.length h (h ++ [some (.cells (mkC p) none)]) := Frm.append (Nat.le_refl _) _
  have hcells : (mkV p).cells = mkC p := rfl
  simp [F30, hcells]
  rw [if_pos hone]
  have hrd : rd (h ++ [some (.cells (mkC p) none)]) (.ptr h.length 0) 2 = some (mkC p) := by simp only [rd, hbox, sub]; simp [mkC]
  generalize h ++ [some (.cells (mkC p) none)] = g at *
  simp [hrd, asV]
  refine (indexM_spec0 H' hn).mono ?_
  rintro r h' ⟨rfl, hf'⟩
  simp [posG_mem]
  exact hf.trans ⟨by have := hf.1; have := hf'.1; omega, by
    have e := hf'.2
    have := congrArg (List.take h.length) e
    rw [List.take_take, List.take_take, Nat.min_eq_left hf.1] at this
    exact this⟩

theorem hget_frm {h h' : Hp} (hf : Frm h.length h h') {b : Nat} (hb : b < h.length) : hget h' b = hget h b := by
  have h1 : hget (h'.take h.length) b = hget (h.take h.length) b := by rw [hf.2]
  unfold hget at h1 ⊢
  rw [List.getElem?_take_of_lt hb, List.getElem?_take_of_lt hb] at h1
  exact h1

theorem Own.blk_lt {h : Hp} {k es : Nat} {ag : Bool} {v : V} {n : Nat} {ys : List V} (H : Own h k es ag v n ys) : ∀ b, v.blk = some b → b < h.length := by
  intro b hb
  obtain ⟨_, ⟨rfl, _⟩ | ⟨rfl, _⟩ | ⟨b', _, _, _, _, rfl, _, hg, _⟩⟩ := H
  · cases hb
  · cases hb
  · injection hb with hb; subst hb; exact hget_lt hg

theorem Own.frm {h h' : Hp} {k es : Nat} {ag : Bool} {v : V} {n : Nat} {ys : List V} (H : Own h k es ag v n ys) (hf : Frm h.length h h') : Own h' k es ag v n ys :=
  Own.keep H fun b hb => hget_frm hf (Own.blk_lt H b hb)

theorem Frm.le {k k' : Nat} {h h' : Hp} (hf : Frm k h h') (hk : k' ≤ k) : Frm k' h h' := by
  refine ⟨by have := hf.1; omega, ?_⟩
  have e := congrArg (List.take k') hf.2
  rw [List.take_take, List.take_take, Nat.min_eq_left hk] at e
  exact e

set_option maxHeartbeats 2000000 in
/-- slices.Delete of marks from the first one on, of a slice of the call's own. -/
theorem deleteM_spec {h : Hp} {k : Nat} {s : V} {n j : Nat} {ms : List Mk} (hk : k ≤ h.length) (H : Own h k 2 true s n (mks ms)) (hj : j ≤ n) (hn : n < 2 ^ 62) :
    ACalls FX 31 [s, .int .i64 0, .int .i64 j] h (fun r h' => ∃ v, r = .ret v ∧ Own h' k 2 true v (n - j) (mks (ms.drop j)) ∧ Frm k h h') := by
  refine acall FX.ok ck31 rfl ?_
  have hms : ms.length = n := by have := H.1; rw [mks_length] at this; omega
  by_cases hj0 : j = 0
  · subst hj0
    obtain ⟨hl, ⟨rfl, rfl⟩ | ⟨rfl, rfl⟩ | ⟨b, cap, ex, rest, ty, rfl, hb, hg, hc, hce⟩⟩ := id H
    · simp [F31, slcV, V.isStr, lenV]
      exact ⟨H, Frm.refl hk⟩
    · simp [F31, slcV, V.isStr, lenV, upTo]
      exact ⟨H, Frm.refl hk⟩
    · simp [F31, slcV, V.isStr, lenV, hc]
      exact ⟨H, Frm.refl hk⟩
  obtain ⟨hl, ⟨rfl, rfl⟩ | ⟨rfl, rfl⟩ | ⟨b, cap, ex, rest, ty, rfl, hb, hg, hc, hce⟩⟩ := H
  · omega
  · omega
  · have hnb : ((0 : Int) == j) = false := by simp; omega
    have c1 : j ≤ n ∧ n ≤ cap := ⟨hj, hc⟩
    have c2 : (n - j) ≤ n := by omega
    obtain ⟨h1, t, a1, a2, a3⟩ := Own.del (bt := 24) (ex := ex) (ag := true) (z := [.str [], .int .u64 0]) (i := 0) hl hg (by omega : 0 < j) hj hc hce rfl
    simp only [Nat.zero_mul, Nat.zero_add] at a1 a2 a3
    simp [F31, slcV, V.isStr, lenV, hnb, c1, a1]
    have c4 : n - j ≤ n ∧ n ≤ cap := ⟨c2, hc⟩
    have c5 : ((n - j : Nat) : Int).toNat = n - j := by omega
    simp [c4, c5, a2]
    refine ⟨⟨by simp [mks_length]; omega, .inr (.inr ⟨b, cap, ex, t, ty, ?_, hb, ?_, by omega, by simpa [mks_drop] using a3⟩)⟩, Frm.set hk hb _⟩
    · rfl
    · rw [hget_set (hget_lt hg)]; simp [mks_drop]

def thInv (h : Hp) (s : V) (n : Nat) (ms : List Mk) (m : Nat) (st : St) : Prop :=
  ∃ (i : Nat) (v : V), m + i = n ∧ st.t 6 = s ∧ st.t 7 = .int .i64 n ∧ st.t 8 = .int .i64 i ∧ st.t 3 = v ∧ st.d = [] ∧ Frm h.length h st.h ∧ Own st.h h.length 2 true v i (mks (ms.take i))

/-- The same marks in a slice of the call's own, frozen behind it. -/
def SameM (ms : List Mk) : Res → Prop := fun r => ∃ v, r = .ret v ∧ Fz 2 v ms.length (mks ms)

theorem SameM.of {x : X} {f : FuncId} {args : List V} {h : Hp} {ms : List Mk} (H : ACalls x f args h fun r h' => ∃ v, r = .ret v ∧ Own h' h.length 2 true v ms.length (mks ms) ∧ Frm h.length h h') (hlow : LowH h.length h) :
    ACalls x f args h (fun r h' => SameM ms r ∧ h' = h) := by
  refine H.ice fun r h' ⟨v, hr, ho, hf⟩ => ⟨hf.1, hlow.frm hf, ?_⟩
  obtain ⟨v', h1, h2⟩ := ho.ice (fun h => by cases h) mks_one mks_low
  subst hr
  exact ⟨.ret v', h1, ⟨v', rfl, h2⟩, by rw [hf.2]; simp⟩

theorem mks_snoc {ms : List Mk} {i : Nat} {p : Mk} (h : ms[i]? = some p) : mks (ms.take (i + 1)) = mks (ms.take i) ++ mkC p := by
  rw [List.take_add_one, h]
  simp [mks]

set_option maxHeartbeats 1000000 in
theorem theirs_spec {h : Hp} {s : V} {ms : List Mk} (H : Fz 2 s ms.length (mks ms)) (hn : ms.length < 2 ^ 40) (hlow : LowH h.length h) :
    ACalls FX 16 [s] h (fun r h' => SameM ms r ∧ h' = h) := by
  refine SameM.of ?_ hlow
  refine acall FX.ok ck16 rfl ?_
  have hl := fun g => (H g).len
  simp [F16, hl]
  refine vc_loop _ _ _ (thInv h s ms.length ms) ms.length ⟨0, .nsl, by omega, by simp, by simp, by simp, by simp, rfl, Frm.refl (Nat.le_refl _), rfl, .inl ⟨rfl, rfl⟩⟩ ?_
  rintro m ⟨t, h', d⟩ ⟨i, v, hm, h6, h7, h8, h3, hd, hf, ho⟩
  simp only at h6 h7 h8 h3 hd hf ho
  subst hd
  by_cases hi : i < ms.length
  · obtain ⟨q, hq1, hq2⟩ := (H h').at (k := .i64) hi
    have hpi : ms[i]? = some (ms[i]'hi) := List.getElem?_eq_getElem _
    generalize ms[i]'hi = pi at hpi
    rw [mks_at hpi] at hq2
    have hbox : hget (h' ++ [some (.cells (mkC pi) none)]) h'.length = some (.cells (mkC pi) none) := hget_new _ _
    have hst : stV (h' ++ [some (.cells [.str [], .int .u64 0] none)]) 2 (.ptr h'.length 0) (.agg (mkC pi)) = some (.skip (h' ++ [some (.cells (mkC pi) none)])) := by
      simp only [stV, V.cells, wr, hget_new]
      rw [if_pos ⟨rfl, by simp [mkC, V.one]⟩]
      simp [mkC, setAll]
    have hrd : rd (h' ++ [some (.cells (mkC pi) none)]) (.ptr h'.length 0) 2 = some (mkC pi) := by simp only [rd, hbox, sub]; simp [mkC]
    have ho' : Own (h' ++ [some (.cells (mkC pi) none)]) h.length 2 true v i (mks (ms.take i)) := Own.keep ho fun b hb => by
      obtain ⟨_, ⟨rfl, _⟩ | ⟨rfl, _⟩ | ⟨b', _, _, _, _, rfl, _, hg, _⟩⟩ := ho
      · cases hb
      · cases hb
      · injection hb with hb; subst hb; exact hget_old (hget_lt hg) _
    have hf' : Frm h.length h' (h' ++ [some (.cells (mkC pi) none)]) := Frm.append hf.1 _
    obtain ⟨v', h2, a1, a2, a3, a4, a5, a6⟩ := Own.app (bt := 24) (ty := none) (a := .lst true [mkV pi]) (m := 1) (zs := mkC pi) hf'.1 ho' (by simp [src, flat, V.cells, mkV, mkC]) rfl (by unfold room; omega)
    have hw : IntKind.i64.wrap ((i : Int) + 1) = (i : Int) + 1 := by rw [wrap64 (by omega) (by omega)]
    simp [h6, h7, h8, hi, hq1, hq2, asV, hst, h3, hrd]
    have hfill : fillV [.str [], .int .u64 0] [(0, 2, .agg (mkC pi))] = some (mkC pi) := by simp [fillV, V.cells, mkC, V.one, setAll]
    have hch : chunk 2 true 1 (mkC pi) = [mkV pi] := rfl
    simp [hfill, hch, a1, h8, hw]
    refine ⟨m - 1, by omega, i + 1, v', by omega, by simp [h6], by simp [h7], by simp, by simp, rfl, hf.trans (hf'.trans a3), ?_⟩
    rw [mks_snoc hpi]; exact a2
  · have : i = ms.length := by omega
    subst this
    rw [List.take_length] at ho
    simp [h6, h7, h8, h3]
    exact ⟨ho, hf⟩

set_option maxHeartbeats 1000000 in
theorem ours_spec {h : Hp} {s : V} {ms : List Mk} (H : Fz 2 s ms.length (mks ms)) (hn : ms.length < 2 ^ 40) (hlow : LowH h.length h) :
    ACalls FX 21 [s] h (fun r h' => SameM ms r ∧ h' = h) := by
  refine SameM.of ?_ hlow
  refine acall FX.ok ck21 rfl ?_
  have hl := fun g => (H g).len
  simp [F21, hl]
  refine vc_loop _ _ _ (thInv h s ms.length ms) ms.length ⟨0, .nsl, by omega, by simp, by simp, by simp, by simp, rfl, Frm.refl (Nat.le_refl _), rfl, .inl ⟨rfl, rfl⟩⟩ ?_
  rintro m ⟨t, h', d⟩ ⟨i, v, hm, h6, h7, h8, h3, hd, hf, ho⟩
  simp only at h6 h7 h8 h3 hd hf ho
  subst hd
  by_cases hi : i < ms.length
  · obtain ⟨q, hq1, hq2⟩ := (H h').at (k := .i64) hi
    have hpi : ms[i]? = some (ms[i]'hi) := List.getElem?_eq_getElem _
    generalize ms[i]'hi = pi at hpi
    rw [mks_at hpi] at hq2
    have hbox : hget (h' ++ [some (.cells (mkC pi) none)]) h'.length = some (.cells (mkC pi) none) := hget_new _ _
    have hst : stV (h' ++ [some (.cells [.str [], .int .u64 0] none)]) 2 (.ptr h'.length 0) (.agg (mkC pi)) = some (.skip (h' ++ [some (.cells (mkC pi) none)])) := by
      simp only [stV, V.cells, wr, hget_new]
      rw [if_pos ⟨rfl, by simp [mkC, V.one]⟩]
      simp [mkC, setAll]
    have hrd : rd (h' ++ [some (.cells (mkC pi) none)]) (.ptr h'.length 0) 2 = some (mkC pi) := by simp only [rd, hbox, sub]; simp [mkC]
    have ho' : Own (h' ++ [some (.cells (mkC pi) none)]) h.length 2 true v i (mks (ms.take i)) := Own.keep ho fun b hb => by
      obtain ⟨_, ⟨rfl, _⟩ | ⟨rfl, _⟩ | ⟨b', _, _, _, _, rfl, _, hg, _⟩⟩ := ho
      · cases hb
      · cases hb
      · injection hb with hb; subst hb; exact hget_old (hget_lt hg) _
    have hf' : Frm h.length h' (h' ++ [some (.cells (mkC pi) none)]) := Frm.append hf.1 _
    obtain ⟨v', h2, a1, a2, a3, a4, a5, a6⟩ := Own.app (bt := 24) (ty := none) (a := .lst true [mkV pi]) (m := 1) (zs := mkC pi) hf'.1 ho' (by simp [src, flat, V.cells, mkV, mkC]) rfl (by unfold room; omega)
    have hw : IntKind.i64.wrap ((i : Int) + 1) = (i : Int) + 1 := by rw [wrap64 (by omega) (by omega)]
    simp [h6, h7, h8, hi, hq1, hq2, asV, hst, h3, hrd]
    have hfill : fillV [.str [], .int .u64 0] [(0, 2, .agg (mkC pi))] = some (mkC pi) := by simp [fillV, V.cells, mkC, V.one, setAll]
    have hch : chunk 2 true 1 (mkC pi) = [mkV pi] := rfl
    simp [hfill, hch, a1, h8, hw]
    refine ⟨m - 1, by omega, i + 1, v', by omega, by simp [h6], by simp [h7], by simp, by simp, rfl, hf.trans (hf'.trans a3), ?_⟩
    rw [mks_snoc hpi]; exact a2
  · have : i = ms.length := by omega
    subst this
    rw [List.take_length] at ho
    simp [h6, h7, h8, h3]
    exact ⟨ho, hf⟩

def sameMInv (h : Hp) (a b : V) (n : Nat) (ps qs : List Mk) (m : Nat) (st : St) : Prop :=
  ∃ i : Nat, m + i = n ∧ st.t 0 = a ∧ st.t 1 = b ∧ st.t 5 = .int .i64 i ∧ st.h = h ∧ st.d = [] ∧ ∀ j, j < i → ps[j]? = qs[j]?

set_option maxHeartbeats 1000000 in
/-- The reference's 'Same' of marks. -/
theorem sameM_spec {h : Hp} {a b : V} {n n' : Nat} {ps qs : List Mk} (H : Sl h 2 a n (mks ps)) (K : Sl h 2 b n' (mks qs)) (hn : n < 2 ^ 62) (hn' : n' < 2 ^ 62) :
    ACalls FX 20 [a, b] h (fun r h' => r = .ret (.bool (decide (ps = qs))) ∧ h' = h) := by
  refine acall FX.ok ck20 rfl ?_
  have hl := H.len
  have kl := K.len
  have hpl : ps.length = n := by have := H.ylen; rw [mks_length] at this; omega
  have hql : qs.length = n' := by have := K.ylen; rw [mks_length] at this; omega
  by_cases hnn : n = n'
  · subst hnn
    simp [F20, hl, kl]
    refine vc_loop _ _ _ (sameMInv h a b n ps qs) n ⟨0, by simp⟩ ?_
    rintro m ⟨t, h', d⟩ ⟨i, hm, h0, h1, h5, hh, hd, heq⟩
    simp only at h0 h1 h5 hh hd
    subst hh; subst hd
    by_cases hi : i < n
    · obtain ⟨q, hq1, hq2⟩ := H.at (k := .i64) hi
      obtain ⟨r, hr1, hr2⟩ := K.at (k := .i64) hi
      have hpi : ps[i]? = some (ps[i]'(by omega)) := List.getElem?_eq_getElem _
      generalize ps[i]'(by omega) = pi at hpi
      have hqi : qs[i]? = some (qs[i]'(by omega)) := List.getElem?_eq_getElem _
      generalize qs[i]'(by omega) = qi at hqi
      rw [mks_at hpi] at hq2
      rw [mks_at hqi] at hr2
      simp [h0, h1, h5, hl, hi, hq1, hq2, hr1, hr2, asV, veq_mk]
      by_cases hp : pi = qi
      · subst hp
        simp [h0, h1, h5]
        refine ⟨m - 1, by omega, i + 1, by omega, by simp [h0], by simp [h1], ?_, rfl, rfl, fun j hj => ?_⟩
        · simp [wrap64 (n := (i : Int) + 1) (by omega) (by omega)]
        · by_cases hji : j = i
          · subst hji; rw [hpi, hqi]
          · exact heq j (by omega)
      · simp [h0, h1, h5, hp]
        intro e
        rw [e, hqi] at hpi
        exact hp (Option.some.inj hpi).symm
    · simp [h0, h1, h5, hl, hi]
      refine List.ext_getElem? fun j => ?_
      by_cases hj : j < n
      · exact heq j (by omega)
      · rw [List.getElem?_eq_none (by omega), List.getElem?_eq_none (by omega)]
  · have hb : ((n : Int) != n') = true := by simpa using fun e => hnn (by omega)
    simp [F20, hl, kl, hb]
    intro e
    rw [e, hql] at hpl
    exact hnn hpl.symm

end Go.Proofs.Ytpefpiccljohlaa
