/- What the functions of package slices come to. -/
import Derived.Test.YtpefpiccljohlaaZfCode
import Derived.Test.YtpefpiccljohlaaZvPure
namespace Go.Proofs.Ytpefpiccljohlaa
open Go.Vs Go.RowKit
set_option linter.unusedSimpArgs false
set_option linter.unusedVariables false

noncomputable def FX : X := ⟨Try.prog, fun _ => [], fun _ _ => none⟩
theorem FX.ok : XOk FX := fun t m f p h => by cases h
theorem FX.low : XLow FX := fun g c hc => by cases hc

theorem wrap64 {n : Int} (h0 : -9223372036854775808 ≤ n) (h1 : n < 9223372036854775808) : IntKind.i64.wrap n = n := by
  rw [IntKind.wrap_i64]; omega

theorem one_at {ys : List V} {i : Nat} {y : V} (h : ys[i]? = some y) : List.take 1 (List.drop (i * 1) ys) = [y] := by
  have hi := (List.getElem?_eq_some_iff.1 h).1
  rw [Nat.mul_one, List.drop_eq_getElem_cons hi]
  simp [(List.getElem?_eq_some_iff.1 h).2]

/-- The first place of a text among others. -/
def posI (ps : List (List UInt8)) (p : List UInt8) : Int := match ps.findIdx? (· == p) with
  | some i => (i : Int)
  | none => -1

theorem posI_at {ps : List (List UInt8)} {p : List UInt8} {i : Nat} (hi : ps[i]? = some p) (h : ∀ j, j < i → ps[j]? ≠ some p) : posI ps p = i := by
  have : ps.findIdx? (· == p) = some i := by
    rw [List.findIdx?_eq_some_iff_getElem]
    have hl := (List.getElem?_eq_some_iff.1 hi).1
    refine ⟨hl, by simp [(List.getElem?_eq_some_iff.1 hi).2], fun j hj => ?_⟩
    have := h j hj
    rw [List.getElem?_eq_getElem (by omega)] at this
    simpa using this
  simp [posI, this]

theorem posI_none {ps : List (List UInt8)} {p : List UInt8} (h : ∀ j, j < ps.length → ps[j]? ≠ some p) : posI ps p = -1 := by
  have : ps.findIdx? (· == p) = none := by
    rw [List.findIdx?_eq_none_iff]
    intro x hx
    obtain ⟨j, hj, rfl⟩ := List.getElem_of_mem hx
    have := h j hj
    rw [List.getElem?_eq_getElem hj] at this
    simpa using this
  simp [posI, this]

def indexInv (h : Hp) (s : V) (n : Nat) (ps : List (List UInt8)) (p : List UInt8) (m : Nat) (st : St) : Prop :=
  ∃ i : Nat, m + i = n ∧ st.t 0 = s ∧ st.t 1 = .str p ∧ st.t 7 = .int .i64 n ∧ st.t 8 = .int .i64 i ∧ st.h = h ∧ st.d = [] ∧ ∀ j, j < i → ps[j]? ≠ some p

theorem index_spec {h : Hp} {s : V} {n : Nat} {ps : List (List UInt8)} {p : List UInt8} (H : Sl h 1 s n (ps.map .str)) (hn : n < 2 ^ 62) :
    ACalls FX 25 [s, .str p] h (fun r h' => r = .ret (.int .i64 (posI ps p)) ∧ h' = h) := by
  refine acall FX.ok ck25 rfl ?_
  have hl := H.len
  have hpl : ps.length = n := by have := H.ylen; simpa using this
  simp [F25, hl]
  refine vc_loop _ _ _ (indexInv h s n ps p) n ⟨0, by simp⟩ ?_
  rintro m ⟨t, h', d⟩ ⟨i, hm, h0, h1, h7, h8, hh, hd, hnone⟩
  simp only at h0 h1 h7 h8 hh hd
  subst hh; subst hd
  by_cases hi : i < n
  · obtain ⟨q, hq1, hq2⟩ := H.at (k := .i64) hi
    have hpi : ps[i]? = some (ps[i]'(by omega)) := List.getElem?_eq_getElem _
    generalize ps[i]'(by omega) = pi at hpi
    rw [one_at (y := .str pi) (by simp [hpi])] at hq2
    simp [h0, h1, h7, h8, hi, hq1, hq2, asV, strBin]
    by_cases hp : p = pi
    · subst hp
      simp [h0, h1, h7, h8, posI_at hpi hnone]
    · have hb : (p == pi) = false := by simpa using hp
      simp [h0, h1, h7, h8, hb]
      refine ⟨m - 1, by omega, i + 1, by omega, by simp [h0], by simp [h1], by simp [h7], ?_, rfl, rfl, fun j hj => ?_⟩
      · simp [wrap64 (n := (i : Int) + 1) (by omega) (by omega)]
      · by_cases hji : j = i
        · subst hji; rw [hpi]; intro e; cases e; exact hp rfl
        · exact hnone j (by omega)
  · simp [h0, h1, h7, h8, hi]
    rw [posI_none fun j hj => hnone j (by omega)]


theorem veq_nsl {h : Hp} {es : Nat} {s : V} {n : Nat} {ys : List V} (H : Sl h es s n ys) : (s = .nsl ∧ veq .slc s .nsl = some true) ∨ (s ≠ .nsl ∧ veq .slc s .nsl = some false) := by
  rcases H.shape with ⟨rfl, _, _⟩ | ⟨b, off, cap, ex, ag, cs, ty, rfl, _, _, _⟩ | ⟨ex, xs, rfl, _, _, _⟩
  · exact .inl ⟨rfl, rfl⟩
  · exact .inr ⟨by simp, rfl⟩
  · exact .inr ⟨by simp, rfl⟩

theorem cloneS_spec {h : Hp} {s : V} {n : Nat} {ys : List V} (H : Sl h 1 s n ys) (hn : n * 16 ≤ room) :
    ACalls FX 22 [s] h (fun r h' => ∃ v, r = .ret v ∧ Own h' h.length 1 false v n ys ∧ Frm h.length h h') := by
  refine acall FX.ok ck22 rfl ?_
  rcases veq_nsl H with ⟨rfl, hv⟩ | ⟨hne, hv⟩
  · have := H.1
    simp only [src, Option.some.injEq, Prod.mk.injEq] at this
    obtain ⟨rfl, rfl⟩ := this
    simp [F22, hv, Frm.refl, Own]
  · obtain ⟨v', h', h1, h2, h3, h4, h5⟩ := Own.app (h := h) (k := h.length) (es := 1) (bt := 16) (ag := false) (ty := none) (v := .lst true []) (a := s) (n := 0) (m := n) (ys := []) (zs := ys) (Nat.le_refl _) ⟨rfl, .inr (.inl ⟨rfl, rfl⟩)⟩ H.1 H.ylen (by simpa using hn)
    simp [F22, hv, fillV, chunk, h1]
    exact ⟨by simpa using h2, h3⟩

theorem cloneM_spec {h : Hp} {s : V} {n : Nat} {ys : List V} (H : Sl h 2 s n ys) (hn : n * 24 ≤ room) :
    ACalls FX 27 [s] h (fun r h' => ∃ v, r = .ret v ∧ Own h' h.length 2 true v n ys ∧ Frm h.length h h') := by
  refine acall FX.ok ck27 rfl ?_
  rcases veq_nsl H with ⟨rfl, hv⟩ | ⟨hne, hv⟩
  · have := H.1
    simp only [src, Option.some.injEq, Prod.mk.injEq] at this
    obtain ⟨rfl, rfl⟩ := this
    simp [F27, hv, Frm.refl, Own]
  · obtain ⟨v', h', h1, h2, h3, h4, h5⟩ := Own.app (h := h) (k := h.length) (es := 2) (bt := 24) (ag := true) (ty := none) (v := .lst true []) (a := s) (n := 0) (m := n) (ys := []) (zs := ys) (Nat.le_refl _) ⟨rfl, .inr (.inl ⟨rfl, rfl⟩)⟩ H.1 H.ylen (by simpa using hn)
    simp [F27, hv, fillV, chunk, h1]
    exact ⟨by simpa using h2, h3⟩

theorem containsS_spec {h : Hp} {s : V} {n : Nat} {ps : List (List UInt8)} {p : List UInt8} (H : Sl h 1 s n (ps.map .str)) (hn : n < 2 ^ 62) :
    ACalls FX 23 [s, .str p] h (fun r h' => r = .ret (.bool (decide (0 ≤ posI ps p))) ∧ h' = h) := by
  refine acall FX.ok ck23 rfl ?_
  simp [F23]
  refine (index_spec H hn).mono ?_
  rintro r h' ⟨rfl, rfl⟩
  simp


theorem Sl.isStr {h : Hp} {es : Nat} {s : V} {n : Nat} {ys : List V} (H : Sl h es s n ys) : s.isStr = false := H.2.1

theorem bnd_int {x : X} {t : Nat → V} {d k : Nat} {n : Int} (h : t k = .int .i64 n) (h0 : 0 ≤ n) : bnd x t d (some (.t k)) = some n.toNat := by
  simp [bnd, h, h0]

/-- The text that is added to a group, or why not. -/
def addL (ps : List (List UInt8)) (p : List UInt8) : List (List UInt8) × Int :=
  if p = [] then (ps, 2) else if p ∈ ps then (ps, 10) else if 6 ≤ ps.length then (ps, 11) else (ps ++ [p], 0)

theorem posI_mem {ps : List (List UInt8)} {p : List UInt8} : 0 ≤ posI ps p ↔ p ∈ ps := by
  unfold posI
  cases h : ps.findIdx? (· == p) with
  | none =>
    rw [List.findIdx?_eq_none_iff] at h
    simp only []
    constructor
    · intro h'; omega
    · intro hm; have := h p hm; simp at this
  | some i =>
    rw [List.findIdx?_eq_some_iff_getElem] at h
    obtain ⟨hi, h1, _⟩ := h
    simp only [beq_iff_eq] at h1
    constructor
    · intro _; rw [← h1]; exact List.getElem_mem hi
    · intro _; exact Int.natCast_nonneg i

theorem str_one {ps : List (List UInt8)} : ∀ y ∈ ps.map V.str, y.one = true := by
  intro y hy; obtain ⟨p, _, rfl⟩ := List.mem_map.1 hy; rfl
theorem str_low {ps : List (List UInt8)} : ∀ y ∈ ps.map V.str, Low 0 y := by
  intro y hy; obtain ⟨p, _, rfl⟩ := List.mem_map.1 hy; exact .str p

/-- A list of texts and a number are answered. -/
def LR (ps : List (List UInt8)) (e : Int) (h : Hp) : Res → Hp → Prop := fun r h' => h' = h ∧ ∃ v, r = .ret (.tup [v, .int .i64 e]) ∧ Fz 1 v ps.length (ps.map .str)

/-- .. out of a slice of the call's own. -/
theorem LR.of {x : X} {f : FuncId} {args : List V} {h : Hp} {ps : List (List UInt8)} {e : Int} (H : ACalls x f args h fun r h' => ∃ v, r = .ret (.tup [v, .int .i64 e]) ∧ (Own h' h.length 1 false v ps.length (ps.map .str) ∨ Fz 1 v ps.length (ps.map .str)) ∧ Frm h.length h h') (hlow : LowH h.length h) :
    ACalls x f args h (LR ps e h) := by
  refine H.ice fun r h' ⟨v, hr, ho, hf⟩ => ⟨hf.1, ?_, ?_⟩
  · intro β hβ b hg
    refine hlow β hβ b ?_
    have h1 : hget (h'.take h.length) β = hget (h.take h.length) β := by rw [hf.2]
    unfold hget at h1 hg ⊢
    rw [List.getElem?_take_of_lt hβ, List.getElem?_take_of_lt hβ] at h1
    rw [← h1]; exact hg
  · obtain ⟨v', h1, h2⟩ : ∃ v', Ice h' h.length v v' ∧ Fz 1 v' ps.length (ps.map .str) := by
      rcases ho with ho | ho
      · exact ho.ice (fun _ => rfl) str_one str_low
      · exact ⟨v, .low _ ((ho.low str_low).mono (Nat.zero_le _)), ho⟩
    subst hr
    refine ⟨.ret (.tup [v', .int .i64 e]), ?_, by rw [hf.2]; simp, v', rfl, h2⟩
    refine .tup _ _ rfl fun j x y hx hy => ?_
    match j with
    | 0 => simp at hx hy; subst hx; subst hy; exact h1
    | 1 => simp at hx hy; subst hx; subst hy; exact .low _ (.int _ _)
    | j + 2 => simp at hx

set_option maxHeartbeats 1000000 in
theorem fanAdd_spec {h : Hp} {g : V} {ps : List (List UInt8)} {p : List UInt8} (H : Sl h 1 g ps.length (ps.map .str)) (hn : ps.length ≤ 2 ^ 40) (hlow : LowH h.length h) :
    ACalls FX 10 [g, .str p] h (LR (addL ps p).1 (addL ps p).2 h) := by
  refine LR.of ?_ hlow
  refine acall FX.ok ck10 rfl ?_
  simp [F10]
  refine (cloneS_spec H (by unfold room; omega)).mono ?_
  rintro r h1 ⟨v, rfl, ho, hf⟩
  simp [strBin]
  by_cases hp : p = []
  · subst hp
    simp [addL]
    exact ⟨.inl ho, hf⟩
  · have hb : p.isEmpty = false := by simpa using hp
    simp [hb]
    refine (containsS_spec ho.sl (by omega)).mono ?_
    rintro r h2 ⟨rfl, rfl⟩
    by_cases hm : p ∈ ps
    · simp [posI_mem, hm, addL, hp]
      exact ⟨.inl ho, hf⟩
    · simp [posI_mem, hm, ho.sl.len]
      by_cases h6 : 6 ≤ ps.length
      · have : (6 : Int) ≤ ps.length := by omega
        simp [this, addL, hp, hm, h6]
        exact ⟨.inl ho, hf⟩
      · have : ¬ (6 : Int) ≤ ps.length := by omega
        obtain ⟨v', h', a1, a2, a3, a4, a5⟩ := Own.app (bt := 16) (ty := none) (a := .lst true [.str p]) (m := 1) (zs := [.str p]) hf.1 ho (by simp [src, flat, V.cells]) rfl (by unfold room; omega)
        simp [this, fillV, chunk, setAll, V.cells, V.one, a1, addL, hp, hm, h6]
        exact ⟨.inl (by simpa using a2), hf.trans a3⟩


def hasInv (h : Hp) (s : V) (n : Nat) (ps : List (List UInt8)) (p : List UInt8) (m : Nat) (st : St) : Prop :=
  ∃ i : Nat, m + i = n ∧ st.t 0 = s ∧ st.t 1 = .str p ∧ st.t 5 = .int .i64 i ∧ st.h = h ∧ st.d = [] ∧ ∀ j, j < i → ps[j]? ≠ some p

theorem not_mem_of {ps : List (List UInt8)} {p : List UInt8} (h : ∀ j, j < ps.length → ps[j]? ≠ some p) : p ∉ ps := by
  intro hm
  obtain ⟨j, hj, he⟩ := List.getElem_of_mem hm
  exact h j hj (by rw [List.getElem?_eq_getElem hj, he])

set_option maxHeartbeats 1000000 in
theorem has_spec {h : Hp} {s : V} {n : Nat} {ps : List (List UInt8)} {p : List UInt8} (H : Sl h 1 s n (ps.map .str)) (hn : n < 2 ^ 62) :
    ACalls FX 24 [s, .str p] h (fun r h' => r = .ret (.bool (decide (p ∈ ps))) ∧ h' = h) := by
  refine acall FX.ok ck24 rfl ?_
  have hl := H.len
  have hpl : ps.length = n := by have := H.ylen; simpa using this
  simp [F24, hl]
  refine vc_loop _ _ _ (hasInv h s n ps p) n ⟨0, by simp⟩ ?_
  rintro m ⟨t, h', d⟩ ⟨i, hm, h0, h1, h5, hh, hd, hnone⟩
  simp only at h0 h1 h5 hh hd
  subst hh; subst hd
  by_cases hi : i < n
  · obtain ⟨q, hq1, hq2⟩ := H.at (k := .i64) hi
    have hpi : ps[i]? = some (ps[i]'(by omega)) := List.getElem?_eq_getElem _
    generalize ps[i]'(by omega) = pi at hpi
    rw [one_at (y := .str pi) (by simp [hpi])] at hq2
    simp [h0, h1, h5, hl, hi, hq1, hq2, asV, strBin]
    by_cases hp : p = pi
    · subst hp
      simp [h0, h1, h5, List.mem_of_getElem? hpi]
    · have hb : (pi == p) = false := by simpa using fun e => hp e.symm
      simp [h0, h1, h5, hb]
      refine ⟨m - 1, by omega, i + 1, by omega, by simp [h0], by simp [h1], ?_, rfl, rfl, fun j hj => ?_⟩
      · simp [wrap64 (n := (i : Int) + 1) (by omega) (by omega)]
      · by_cases hji : j = i
        · subst hji; rw [hpi]; intro e; cases e; exact hp rfl
        · exact hnone j (by omega)
  · simp [h0, h1, h5, hl, hi]
    exact not_mem_of fun j hj => hnone j (by omega)

set_option maxHeartbeats 1000000 in
theorem refAdd_spec {h : Hp} {g : V} {ps : List (List UInt8)} {p : List UInt8} (H : Fz 1 g ps.length (ps.map .str)) (hn : ps.length ≤ 2 ^ 40) (hlow : LowH h.length h) :
    ACalls FX 11 [g, .str p] h (LR (addL ps p).1 (addL ps p).2 h) := by
  refine LR.of ?_ hlow
  refine acall FX.ok ck11 rfl ?_
  simp [F11, strBin]
  by_cases hp : p = []
  · subst hp
    simp [addL]
    exact ⟨.inr H, Frm.refl (Nat.le_refl _)⟩
  · have hb : p.isEmpty = false := by simpa using hp
    simp [hb]
    refine (has_spec (H h) (by omega)).mono ?_
    rintro r h2 ⟨rfl, rfl⟩
    by_cases hm : p ∈ ps
    · simp [hm, addL, hp]
      exact ⟨.inr H, Frm.refl (Nat.le_refl _)⟩
    · simp [hm, (H h2).len]
      by_cases h6 : 6 ≤ ps.length
      · have : (6 : Int) ≤ ps.length := by omega
        simp [this, addL, hp, hm, h6]
        exact ⟨.inr H, Frm.refl (Nat.le_refl _)⟩
      · have : ¬ (6 : Int) ≤ ps.length := by omega
        obtain ⟨v1, h1, b1, b2, b3, b4, b5⟩ := Own.app (h := h2) (k := h2.length) (es := 1) (bt := 16) (ag := false) (ty := none) (v := .lst true []) (n := 0) (ys := []) (Nat.le_refl _) ⟨rfl, .inr (.inl ⟨rfl, rfl⟩)⟩ (H h2).1 (H h2).ylen (by unfold room; omega)
        simp only [List.nil_append, Nat.zero_add] at b2
        obtain ⟨v', h', a1, a2, a3, a4, a5⟩ := Own.app (bt := 16) (ty := none) (a := .lst true [.str p]) (m := 1) (zs := [.str p]) b3.1 b2 (by simp [src, flat, V.cells]) rfl (by unfold room; omega)
        simp [this, fillV, chunk, setAll, V.cells, V.one, b1, a1, addL, hp, hm, h6]
        exact ⟨.inl (by simpa using a2), b3.trans a3⟩


set_option maxHeartbeats 2000000 in
/-- slices.Delete of texts, of a slice of the call's own. -/
theorem deleteS_spec {h : Hp} {k : Nat} {s : V} {n i j : Nat} {ys : List V} (hk : k ≤ h.length) (H : Own h k 1 false s n ys) (hi : i < j) (hj : j ≤ n) (hn : n < 2 ^ 62) :
    ACalls FX 26 [s, .int .i64 i, .int .i64 j] h (fun r h' => ∃ v, r = .ret v ∧ Own h' k 1 false v (n - (j - i)) (ys.take i ++ ys.drop j) ∧ Frm k h h') := by
  refine acall FX.ok ck26 rfl ?_
  obtain ⟨hl, ⟨rfl, rfl⟩ | ⟨rfl, rfl⟩ | ⟨b, cap, ex, rest, ty, rfl, hb, hg, hc, hce⟩⟩ := H
  · omega
  · omega
  · have hne : ¬ ((i : Int) = j) := by omega
    have hnb : ((i : Int) == j) = false := by simpa using hne
    obtain ⟨h1, t, a1, a2, a3⟩ := Own.del (bt := 16) (ex := ex) (ag := false) (z := [.str []]) hl hg hi hj hc hce rfl
    simp only [Nat.mul_one] at a1 a2 a3
    have c1 : i ≤ j ∧ j ≤ n ∧ n ≤ cap := ⟨by omega, hj, hc⟩
    have c2 : i ≤ cap := by omega
    have c3 : i + (n - j) ≤ n := by omega
    simp [F26, slcV, V.isStr, lenV, hnb, c1, c2, a1]
    have d1 : (0 : Int) ≤ (i : Int) + ((n - j : Nat) : Int) := by omega
    have d2 : ((i : Int) + ((n - j : Nat) : Int)).toNat = i + (n - j) := by omega
    have c4 : i + (n - j) ≤ n ∧ n ≤ cap := ⟨c3, hc⟩
    simp [d1, d2, c4, a2]
    refine ⟨⟨by simp; omega, .inr (.inr ⟨b, cap, ex, t, ty, ?_, hb, ?_, by omega, by simpa using a3⟩)⟩, Frm.set hk hb _⟩
    · congr 1; omega
    · rw [hget_set (hget_lt hg)]; simp


/-- The text that is taken away, or why not. -/
def remL (ps : List (List UInt8)) (p : List UInt8) : List (List UInt8) × Int :=
  match ps.findIdx? (· == p) with
  | some i => (ps.take i ++ ps.drop (i + 1), 0)
  | none => (ps, 9)

set_option maxHeartbeats 1000000 in
theorem fanRemove_spec {h : Hp} {g : V} {ps : List (List UInt8)} {p : List UInt8} (H : Sl h 1 g ps.length (ps.map .str)) (hn : ps.length ≤ 2 ^ 40) (hlow : LowH h.length h) :
    ACalls FX 12 [g, .str p] h (LR (remL ps p).1 (remL ps p).2 h) := by
  refine LR.of ?_ hlow
  refine acall FX.ok ck12 rfl ?_
  simp [F12]
  refine (cloneS_spec H (by unfold room; omega)).mono ?_
  rintro r h1 ⟨v, rfl, ho, hf⟩
  simp
  refine (index_spec ho.sl (by omega)).mono ?_
  rintro r h2 ⟨rfl, rfl⟩
  unfold remL posI
  cases hp : ps.findIdx? (· == p) with
  | none =>
    simp
    exact ⟨.inl ho, hf⟩
  | some i =>
    have hil : i < ps.length := by
      rw [List.findIdx?_eq_some_iff_getElem] at hp
      exact hp.1
    have hnn : ¬ ((i : Int) < 0) := by omega
    simp [hnn]
    have hw : IntKind.i64.wrap ((i : Int) + 1) = ((i + 1 : Nat) : Int) := by rw [wrap64 (by omega) (by omega)]; omega
    rw [hw]
    refine (deleteS_spec hf.1 ho (by omega : i < i + 1) (by omega) (by omega)).mono ?_
    rintro r h3 ⟨v3, rfl, ho3, hf3⟩
    simp
    refine ⟨.inl ?_, hf.trans hf3⟩
    have e1 : (List.take i ps ++ List.drop (i + 1) ps).length = ps.length - (i + 1 - i) := by simp; omega
    rw [show min i ps.length + (ps.length - (i + 1)) = ps.length - (i + 1 - i) by omega]
    simpa [List.map_take, List.map_drop] using ho3

def remInv (h : Hp) (s : V) (n : Nat) (ps : List (List UInt8)) (p : List UInt8) (m : Nat) (st : St) : Prop :=
  ∃ i : Nat, m + i = n ∧ st.t 0 = s ∧ st.t 1 = .str p ∧ st.t 6 = .int .i64 i ∧ st.h = h ∧ st.d = [] ∧ ∀ j, j < i → ps[j]? ≠ some p

set_option maxHeartbeats 2000000 in
theorem refRemove_spec {h : Hp} {g : V} {ps : List (List UInt8)} {p : List UInt8} (H : Fz 1 g ps.length (ps.map .str)) (hn : ps.length ≤ 2 ^ 40) (hlow : LowH h.length h) :
    ACalls FX 13 [g, .str p] h (LR (remL ps p).1 (remL ps p).2 h) := by
  refine LR.of ?_ hlow
  refine acall FX.ok ck13 rfl ?_
  have hl := (H h).len
  simp [F13, hl]
  refine vc_loop _ _ _ (remInv h g ps.length ps p) ps.length ⟨0, by simp⟩ ?_
  rintro m ⟨t, h', d⟩ ⟨i, hm, h0, h1, h6, hh, hd, hnone⟩
  simp only at h0 h1 h6 hh hd
  subst hh; subst hd
  by_cases hi : i < ps.length
  · obtain ⟨q, hq1, hq2⟩ := (H h').at (k := .i64) hi
    have hpi : ps[i]? = some (ps[i]'hi) := List.getElem?_eq_getElem _
    generalize ps[i]'hi = pi at hpi
    rw [one_at (y := .str pi) (by simp [hpi])] at hq2
    simp [h0, h1, h6, hl, hi, hq1, hq2, asV, strBin]
    by_cases hp : p = pi
    · subst hp
      have hidx : ps.findIdx? (· == p) = some i := by
        rw [List.findIdx?_eq_some_iff_getElem]
        refine ⟨hi, by simp [(List.getElem?_eq_some_iff.1 hpi).2], fun j hj => ?_⟩
        have := hnone j hj
        rw [List.getElem?_eq_getElem (by omega)] at this
        simpa using this
      obtain ⟨v1, e1, f1⟩ := H.take (i := i) (by omega)
      obtain ⟨v2, e2, f2⟩ := H.drop (i := i + 1) (by omega)
      have hs := (H h').2.1
      obtain ⟨w1, g1, b1, b2, b3, b4, b5⟩ := Own.app (h := h') (k := h'.length) (es := 1) (bt := 16) (ag := false) (ty := none) (v := .lst true []) (n := 0) (ys := []) (Nat.le_refl _) ⟨rfl, .inr (.inl ⟨rfl, rfl⟩)⟩ (f1 h').1 (f1 h').ylen (by unfold room; omega)
      simp only [List.nil_append, Nat.zero_add] at b2
      obtain ⟨w2, g2, a1, a2, a3, a4, a5⟩ := Own.app (bt := 16) (ty := none) b3.1 b2 (f2 g1).1 (f2 g1).ylen (by unfold room; omega)
      have hw : IntKind.i64.wrap ((i : Int) + 1) = ((i + 1 : Nat) : Int) := by rw [wrap64 (by omega) (by omega)]; omega
      have hw0 : (0 : Int) ≤ (i : Int) + 1 := by omega
      simp only [Nat.mul_one] at a2
      simp [h0, h1, h6, hs, fillV, chunk, e1, b1, hw, hw0, e2, a1]
      simp [remL, hidx]
      refine ⟨.inl ?_, b3.trans a3⟩
      rw [show min i ps.length + (ps.length - (i + 1)) = i + (ps.length - (i + 1)) by omega]
      simpa [List.map_take, List.map_drop] using a2
    · have hb : (pi == p) = false := by simpa using fun e => hp e.symm
      simp [h0, h1, h6, hb]
      refine ⟨m - 1, by omega, i + 1, by omega, by simp [h0], by simp [h1], ?_, rfl, rfl, fun j hj => ?_⟩
      · simp [wrap64 (n := (i : Int) + 1) (by omega) (by omega)]
      · by_cases hji : j = i
        · subst hji; rw [hpi]; intro e; cases e; exact hp rfl
        · exact hnone j (by omega)
  · simp [h0, h1, h6, hl, hi]
    have : ps.findIdx? (· == p) = none := by
      rw [List.findIdx?_eq_none_iff]
      intro x hx
      obtain ⟨j, hj, rfl⟩ := List.getElem_of_mem hx
      have := hnone j (by omega)
      rw [List.getElem?_eq_getElem hj] at this
      simpa using this
    simp [remL, this]
    exact ⟨.inr H, Frm.refl (Nat.le_refl _)⟩


def sameInv (h : Hp) (a b : V) (n : Nat) (ps qs : List (List UInt8)) (m : Nat) (st : St) : Prop :=
  ∃ i : Nat, m + i = n ∧ st.t 0 = a ∧ st.t 1 = b ∧ st.t 5 = .int .i64 i ∧ st.h = h ∧ st.d = [] ∧ ∀ j, j < i → ps[j]? = qs[j]?

set_option maxHeartbeats 1000000 in
/-- The reference's 'Same' of texts. -/
theorem same_spec {h : Hp} {a b : V} {n n' : Nat} {ps qs : List (List UInt8)} (H : Sl h 1 a n (ps.map .str)) (K : Sl h 1 b n' (qs.map .str)) (hn : n < 2 ^ 62) (hn' : n' < 2 ^ 62) :
    ACalls FX 14 [a, b] h (fun r h' => r = .ret (.bool (decide (ps = qs))) ∧ h' = h) := by
  refine acall FX.ok ck14 rfl ?_
  have hl := H.len
  have kl := K.len
  have hpl : ps.length = n := by have := H.ylen; simpa using this
  have hql : qs.length = n' := by have := K.ylen; simpa using this
  by_cases hnn : n = n'
  · subst hnn
    simp [F14, hl, kl]
    refine vc_loop _ _ _ (sameInv h a b n ps qs) n ⟨0, by simp⟩ ?_
    rintro m ⟨t, h', d⟩ ⟨i, hm, h0, h1, h5, hh, hd, heq⟩
    simp only at h0 h1 h5 hh hd
    subst hh; subst hd
    by_cases hi : i < n
    · obtain ⟨q, hq1, hq2⟩ := H.at (k := .i64) hi
      obtain ⟨r, hr1, hr2⟩ := K.at (k := .i64) hi
      have hpi : ps[i]? = some (ps[i]'(by omega)) := List.getElem?_eq_getElem _
      generalize ps[i]'(by omega) = pi at hpi
      have hqi : qs[i]? = some (qs[i]'(by omega)) := List.getElem?_eq_getElem _
      generalize qs[i]'(by omega) = qi at hqi
      rw [one_at (y := .str pi) (by simp [hpi])] at hq2
      rw [one_at (y := .str qi) (by simp [hqi])] at hr2
      simp [h0, h1, h5, hl, hi, hq1, hq2, hr1, hr2, asV, strBin]
      by_cases hp : pi = qi
      · subst hp
        simp [h0, h1, h5]
        refine ⟨m - 1, by omega, i + 1, by omega, by simp [h0], by simp [h1], ?_, rfl, rfl, fun j hj => ?_⟩
        · simp [wrap64 (n := (i : Int) + 1) (by omega) (by omega)]
        · by_cases hji : j = i
          · subst hji; rw [hpi, hqi]
          · exact heq j (by omega)
      · have hb : (pi == qi) = false := by simpa using hp
        simp [h0, h1, h5, hb]
        intro e
        rw [e, hqi] at hpi
        exact hp (Option.some.inj hpi).symm
    · simp [h0, h1, h5, hl, hi]
      refine List.ext_getElem? fun j => ?_
      by_cases hj : j < n
      · exact heq j (by omega)
      · rw [List.getElem?_eq_none (by omega), List.getElem?_eq_none (by omega)]
  · have hb : ((n : Int) != n') = true := by simpa using fun e => hnn (by omega)
    simp [F14, hl, kl, hb]
    intro e
    rw [e, hql] at hpl
    exact hnn hpl.symm

def fewInv (h : Hp) (a : V) (n : Nat) (ps : List (List UInt8)) (m : Nat) (st : St) : Prop :=
  ∃ i : Nat, m + i = n ∧ st.t 0 = a ∧ st.t 5 = a ∧ st.t 6 = .int .i64 n ∧ st.t 7 = .int .i64 i ∧ st.h = h ∧ st.d = [] ∧ ∀ j p, j < i → ps[j]? = some p → p.length ≤ 500

set_option maxHeartbeats 1000000 in
theorem few_spec {h : Hp} {a : V} {n : Nat} {ps : List (List UInt8)} (H : Sl h 1 a n (ps.map .str)) (hn : n < 9223372036854775808) :
    ACalls FX 9 [a] h (fun r h' => ∃ b, r = .ret (.bool b) ∧ h' = h ∧ (b = true → n ≤ 200 ∧ ∀ p ∈ ps, p.length ≤ 500)) := by
  refine acall FX.ok ck9 rfl ?_
  have hl := H.len
  have hpl : ps.length = n := by have := H.ylen; simpa using this
  simp [F9, hl]
  refine vc_loop _ _ _ (fewInv h a n ps) n ⟨0, by simp⟩ ?_
  rintro m ⟨t, h', d⟩ ⟨i, hm, h0, h5, h6, h7, hh, hd, hall⟩
  simp only at h0 h5 h6 h7 hh hd
  subst hh; subst hd
  by_cases hi : i < n
  · obtain ⟨q, hq1, hq2⟩ := H.at (k := .i64) hi
    have hpi : ps[i]? = some (ps[i]'(by omega)) := List.getElem?_eq_getElem _
    generalize ps[i]'(by omega) = pi at hpi
    rw [one_at (y := .str pi) (by simp [hpi])] at hq2
    simp [h0, h5, h6, h7, hi, hq1, hq2, asV, lenV]
    by_cases hp : (500 : Int) < pi.length
    · simp [hp, h0, h5, h6, h7]
    · simp [hp, h0, h5, h6, h7]
      refine ⟨m - 1, by omega, i + 1, by omega, by simp [h0], by simp [h5], by simp [h6], ?_, rfl, rfl, fun j p hj hjp => ?_⟩
      · simp [wrap64 (n := (i : Int) + 1) (by omega) (by omega)]
      · by_cases hji : j = i
        · subst hji; rw [hpi] at hjp; cases hjp; omega
        · exact hall j p (by omega) hjp
  · simp [h0, h5, h6, h7, hl, hi]
    by_cases h200 : 200 < n
    · exact .inl (by omega)
    refine .inr ⟨by omega, by omega, fun p hp => ?_⟩
    obtain ⟨j, hj, rfl⟩ := List.getElem_of_mem hp
    exact hall j _ (by omega) (List.getElem?_eq_getElem hj)

end Go.Proofs.Ytpefpiccljohlaa
