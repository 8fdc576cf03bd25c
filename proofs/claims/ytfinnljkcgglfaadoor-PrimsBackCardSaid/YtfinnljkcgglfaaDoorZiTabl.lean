/- Tables of terms: what their calls answer. -/
import Derived.Test.YtfinnljkcgglfaaDoorZiKnown
import Derived.Test.YtfinnljkcgglfaaDoorZv6
namespace Go.Proofs.YtfinnljkcgglfaaDoor
open Go.Vs Go.RowKit
set_option maxRecDepth 100000
set_option linter.unusedSimpArgs false
set_option linter.unusedVariables false
attribute [local simp] unV extV wanted strBin vpt vpn vmp nilV_ptr
/-!  What was joined is read -/

theorem readParts_part : ∀ (l : List (List UInt8)) (q : List UInt8), (∀ p ∈ l, p.length ≤ 4000) → readParts l.length (l.flatMap part ++ q) = some (l, q)
  | [], q, _ => rfl
  | p :: r, q, h => by
    have hp := h p (by simp)
    have ih := readParts_part r q fun x hx => h x (by simp [hx])
    have e : (UInt8.ofNat (p.length / 256)).toNat * 256 + (UInt8.ofNat (p.length % 256)).toNat = p.length := by
      rw [UInt8.toNat_ofNat', UInt8.toNat_ofNat']; omega
    simp only [List.length_cons, List.flatMap_cons, part, List.cons_append, List.append_assoc, readParts, e]
    rw [if_pos ⟨hp, by simp⟩, List.drop_left', List.take_left', ih]
    · rfl
    · rfl
    · rfl

theorem readB_joinB {k : UInt8} {l : List (List UInt8)} (h1 : l.length ≤ 255) (h2 : ∀ p ∈ l, p.length ≤ 4000) (h3 : (joinB k l).length ≤ 30000) : readB (joinB k l) = some (k, l) := by
  have hl : (UInt8.ofNat l.length).toNat = l.length := by rw [UInt8.toNat_ofNat']; omega
  have hc := readParts_part l [] h2
  rw [List.append_nil] at hc
  unfold readB
  rw [if_pos h3]
  simp only [joinB, hl, hc, if_true]

theorem joinR_ok {k : UInt8} {l : List (List UInt8)} (h1 : l.length ≤ 255) (h2 : ∀ p ∈ l, p.length ≤ 4000) (h3 : (joinB k l).length ≤ 30000) : joinR k l = (joinB k l, 0) := by
  have hany : l.any (fun s => 4000 < s.length) = false := by
    rw [List.any_eq_false]; intro p hp; have := h2 p hp; simp; omega
  unfold joinR
  rw [if_neg (by omega), hany, if_neg (by simp), if_neg (by omega)]

/-!  Names -/

def nameB (n : Nat) : List UInt8 := [116, 101, 114, 109] ++ (List.replicate (28 - (numB n).length) 0 ++ numB n)

theorem numOf_numB (n : Nat) : numOf (numB n) = n := by
  induction n using Nat.strongRecOn with
  | _ n ih =>
    rcases Nat.eq_zero_or_pos n with rfl | hpos
    · simp [numB, numOf]
    · rw [numB_pos hpos, numOf_snoc, ih (n / 256) (by omega), UInt8.toNat_ofNat']
      omega

theorem numOf_zeros (k : Nat) (s : List UInt8) : numOf (List.replicate k 0 ++ s) = numOf s := by
  unfold numOf
  rw [List.foldl_append]
  congr 1
  induction k with
  | zero => rfl
  | succ k ih => rw [List.replicate_succ, List.foldl_cons]; simpa using ih

theorem nameB_inj {a b : Nat} (h : nameB a = nameB b) : a = b := by
  have := List.append_cancel_left h
  have e := congrArg numOf this
  rwa [numOf_zeros, numOf_zeros, numOf_numB, numOf_numB] at e

theorem repeatL_zero (k : Nat) : Lib.repeatL [(0 : UInt8)] k = List.replicate k 0 := by
  induction k with
  | zero => rfl
  | succ k ih => rw [List.replicate_succ, ← ih]; rfl

theorem name_spec {n : Nat} (hn : n < 1099511627776) : PCalls DX 59 [.int .i64 n] fun r => r = .ret (.str (nameB n)) := by
  refine PCalls.of (acall DX.ok ck59 rfl ?_) fun r hr => by subst hr; exact .str _
  have hl := numB_len 8 (n := n) (by omega)
  have w1 : cviV .u64 (.int .i64 n) = some (.int .u64 n) := by
    simp only [cviV, Option.some.injEq, V.int.injEq, true_and]
    exact wrapu64 (by omega) (by omega)
  have w2 : IntKind.i64.wrap (28 - ((numB n).length : Int)) = ((28 - (numB n).length : Nat) : Int) := by rw [wrap64 (by omega) (by omega)]; omega
  simp [F59, w1]
  refine (PCalls.at DX.low (num_spec (h := []) (n := n) (by omega) (LowH.zero _)) (fun a ha => by simp at ha; subst ha; exact .int _ _) _).mono ?_
  rintro r h' ⟨⟨rfl, _⟩, rfl⟩
  simp [lenV_str, w2]
  refine (PCalls.at DX.low (known_ok 64 [.str [0], .int .i64 ((28 - (numB n).length : Nat) : Int)] (.str (List.replicate (28 - (numB n).length) 0)) (by
    have : known 64 [.str [0], .int .i64 ((28 - (numB n).length : Nat) : Int)] = repV [.str [0], .int .i64 ((28 - (numB n).length : Nat) : Int)] := rfl
    rw [this]
    simp only [repV]
    rw [if_pos ⟨by omega, by omega, by simp⟩, Int.toNat_natCast, repeatL_zero])) (fun a ha => by
      simp at ha; rcases ha with rfl | rfl
      · exact .str _
      · exact .int _ _) _).mono ?_
  rintro r h' ⟨rfl, rfl⟩
  have hr : 4 + (28 - (numB n).length) ≤ room := by unfold room; omega
  have hr2 : 28 - (numB n).length + 1 + 1 + 1 + 1 + (numB n).length ≤ room := by unfold room; omega
  simp [hr, hr2, nameB]

/-!  The maps -/

def namesF : List (List UInt8) → Nat → List (V × V)
  | [], _ => []
  | a :: r, i => (.str a, .str (nameB (i + 1))) :: namesF r (i + 1)

def termsF : List (List UInt8) → Nat → List (V × V)
  | [], _ => []
  | a :: r, i => (.str (nameB (i + 1)), .str a) :: termsF r (i + 1)

def namesL : List (List UInt8) → Nat → List V
  | [], _ => []
  | a :: r, i => .str (nameB (i + 1)) :: namesL r (i + 1)

/-- The place of a text. -/
def pos : List (List UInt8) → List UInt8 → Nat → Option Nat
  | [], _, _ => none
  | a :: r, k, i => if k = a then some i else pos r k (i + 1)

/-- What a name stands for. -/
def what : List (List UInt8) → List UInt8 → Nat → Option (List UInt8)
  | [], _, _ => none
  | a :: r, s, i => if s = nameB (i + 1) then some a else what r s (i + 1)

theorem namesF_snoc (k : List UInt8) : ∀ (ks : List (List UInt8)) (i : Nat), namesF (ks ++ [k]) i = namesF ks i ++ [(.str k, .str (nameB (i + ks.length + 1)))]
  | [], i => rfl
  | a :: r, i => by simp only [List.cons_append, namesF, namesF_snoc k r, List.length_cons]; rw [show i + 1 + r.length = i + (r.length + 1) by omega]

theorem termsF_snoc (k : List UInt8) : ∀ (ks : List (List UInt8)) (i : Nat), termsF (ks ++ [k]) i = termsF ks i ++ [(.str (nameB (i + ks.length + 1)), .str k)]
  | [], i => rfl
  | a :: r, i => by simp only [List.cons_append, termsF, termsF_snoc k r, List.length_cons]; rw [show i + 1 + r.length = i + (r.length + 1) by omega]

theorem namesL_snoc (k : List UInt8) : ∀ (ks : List (List UInt8)) (i : Nat), namesL (ks ++ [k]) i = namesL ks i ++ [.str (nameB (i + ks.length + 1))]
  | [], i => rfl
  | a :: r, i => by simp only [List.cons_append, namesL, namesL_snoc k r, List.length_cons]; rw [show i + 1 + r.length = i + (r.length + 1) by omega]

theorem findM_names (k : List UInt8) : ∀ (ks : List (List UInt8)) (i : Nat), findM .str (.str k) (namesF ks i) = some ((pos ks k i).map fun j => .str (nameB (j + 1)))
  | [], i => rfl
  | a :: r, i => by
    simp only [namesF, findM, pos, veq]
    by_cases h : k = a
    · subst h; simp
    · have : (k == a) = false := by simpa using h
      simp only [this, if_neg h, findM_names k r]

theorem findM_terms (s : List UInt8) : ∀ (ks : List (List UInt8)) (i : Nat), findM .str (.str s) (termsF ks i) = some ((what ks s i).map V.str)
  | [], i => rfl
  | a :: r, i => by
    simp only [termsF, findM, what, veq]
    by_cases h : s = nameB (i + 1)
    · subst h; simp
    · have : (s == nameB (i + 1)) = false := by simpa using h
      simp only [this, if_neg h, findM_terms s r]

theorem what_name : ∀ (ks : List (List UInt8)) (i j : Nat), i ≤ j → what ks (nameB (j + 1)) i = ks[j - i]?
  | [], i, j, _ => by simp [what]
  | a :: r, i, j, h => by
    simp only [what]
    by_cases hij : j = i
    · subst hij; simp
    · rw [if_neg (fun e => hij (by have := nameB_inj e; omega)), what_name r (i + 1) j (by omega)]
      rw [show j - i = (j - (i + 1)) + 1 by omega, List.getElem?_cons_succ]

theorem what_none : ∀ (ks : List (List UInt8)) (i : Nat) (s : List UInt8), (∀ j, i ≤ j → j < i + ks.length → s ≠ nameB (j + 1)) → what ks s i = none
  | [], i, s, _ => rfl
  | a :: r, i, s, h => by
    simp only [what]
    rw [if_neg (h i (Nat.le_refl _) (by simp)), what_none r (i + 1) s fun j h1 h2 => h j (by omega) (by simp; omega)]

theorem what_some : ∀ (ks : List (List UInt8)) (i : Nat) (s k : List UInt8), what ks s i = some k → ∃ j, i ≤ j ∧ s = nameB (j + 1) ∧ ks[j - i]? = some k
  | [], i, s, k, h => by cases h
  | a :: r, i, s, k, h => by
    simp only [what] at h
    split at h
    · rename_i hs
      cases h
      exact ⟨i, Nat.le_refl _, hs, by simp⟩
    · obtain ⟨j, h1, h2, h3⟩ := what_some r (i + 1) s k h
      exact ⟨j, by omega, h2, by rw [show j - i = (j - (i + 1)) + 1 by omega, List.getElem?_cons_succ]; exact h3⟩

theorem pos_some : ∀ {ks : List (List UInt8)} {k : List UInt8} {i j : Nat}, pos ks k i = some j → i ≤ j ∧ ks[j - i]? = some k
  | [], k, i, j, h => by cases h
  | a :: r, k, i, j, h => by
    simp only [pos] at h
    split at h
    · rename_i hs
      cases h; subst hs
      exact ⟨Nat.le_refl _, by simp⟩
    · obtain ⟨h1, h2⟩ := pos_some h
      exact ⟨by omega, by rw [show j - i = (j - (i + 1)) + 1 by omega, List.getElem?_cons_succ]; exact h2⟩

/-- The number of a text, and what there is behind it. -/
def putN (ks : List (List UInt8)) (k : List UInt8) : Nat := (pos ks k 0).getD ks.length

def putT (ks : List (List UInt8)) (k : List UInt8) : List (List UInt8) := if (pos ks k 0).isSome then ks else ks ++ [k]

theorem putT_len (ks : List (List UInt8)) (k : List UInt8) : (putT ks k).length ≤ ks.length + 1 := by
  unfold putT; split <;> simp

theorem putT_get (ks : List (List UInt8)) (k : List UInt8) : (putT ks k)[putN ks k]? = some k := by
  unfold putN putT
  cases h : pos ks k 0 with
  | none => simp
  | some j => simpa using (pos_some h).2

/-- Kinds of terms have so many parts. -/
def okP (kd : UInt8) (ps : List (List UInt8)) : Prop := (kd = 2 → ps.length = 1) ∧ (kd = 5 → ps.length = 4)

/-- A table. -/
structure Tab (h : Hp) (τ m1 m2 : Nat) (al : V) (ks : List (List UInt8)) : Prop where
  ht : hget h τ = some (.cells [.map m1, .map m2, al] none)
  h1 : hget h m1 = some (.map (namesF ks 0))
  h2 : hget h m2 = some (.map (termsF ks 0))
  own : Vs.Own h 0 1 false al ks.length (namesL ks 0)
  d1 : τ ≠ m1
  d2 : τ ≠ m2
  d3 : m1 ≠ m2
  d4 : al.blk ≠ some τ
  d5 : al.blk ≠ some m1
  d6 : al.blk ≠ some m2
  lt : ks.length < 1000000
  jn : ∀ k ∈ ks, ∃ (kd : UInt8) (ps : List (List UInt8)), k = joinB kd ps ∧ ps.length ≤ 255 ∧ (∀ p ∈ ps, p.length ≤ 4000) ∧ (joinB kd ps).length ≤ 30000 ∧ okP kd ps

/-- All else stays. -/
def Rest (h h' : Hp) (τ m1 m2 : Nat) (al : V) : Prop := h.length ≤ h'.length ∧ ∀ c, c < h.length → c ≠ τ → c ≠ m1 → c ≠ m2 → al.blk ≠ some c → hget h' c = hget h c

theorem Tab.keep {h h' : Hp} {τ m1 m2 : Nat} {al : V} {ks : List (List UInt8)} (T : Tab h τ m1 m2 al ks) (hk : ∀ c, c < h.length → hget h' c = hget h c) : Tab h' τ m1 m2 al ks :=
  ⟨by rw [hk _ (hget_lt T.ht)]; exact T.ht, by rw [hk _ (hget_lt T.h1)]; exact T.h1, by rw [hk _ (hget_lt T.h2)]; exact T.h2, T.own.keepB fun b hb => hk b (T.own.blk_lt hb), T.d1, T.d2, T.d3, T.d4, T.d5, T.d6, T.lt, T.jn⟩

theorem good_spec {h : Hp} {τ m1 m2 : Nat} {al : V} {ks : List (List UInt8)} (T : Tab h τ m1 m2 al ks) : ACalls DX 55 [.ptr τ 0] h fun r h' => r = .ret (.bool true) ∧ h' = h := by
  refine acall DX.ok ck55 rfl ?_
  have q0 := rd_cell T.ht 0
  simp [sub] at q0
  simp [F55, fadV, q0, asV]

def PutR (h : Hp) (τ m1 m2 : Nat) (al : V) (ks : List (List UInt8)) (k : List UInt8) (r : Res) (h' : Hp) : Prop :=
  ∃ al', r = .ret (.str (nameB (putN ks k + 1))) ∧ Tab h' τ m1 m2 al' (putT ks k) ∧ Rest h h' τ m1 m2 al ∧ (∀ c, al'.blk = some c → al.blk = some c ∨ h.length ≤ c) ∧ (∀ j, pos ks k 0 = some j → h' = h ∧ al' = al)

theorem put_spec0 {h : Hp} {τ m1 m2 : Nat} {al : V} {ks : List (List UInt8)} (T : Tab h τ m1 m2 al ks) {l : V} {kd : UInt8} {ps : List (List UInt8)} (hjoin : ACalls DX 58 [.int .u8 kd.toNat, l] h fun r h' => r = .ret (.tup [.str (joinR kd ps).1, .int .i64 (joinR kd ps).2]) ∧ h' = h)
    (g1 : ps.length ≤ 255) (g2 : ∀ p ∈ ps, p.length ≤ 4000) (g3 : (joinB kd ps).length ≤ 30000) (g4 : okP kd ps) (hk : ks.length < 999999) : ACalls DX 56 [.ptr τ 0, .int .u8 kd.toNat, l] h (PutR h τ m1 m2 al ks (joinB kd ps)) := by
  refine acall DX.ok ck56 rfl ?_
  have q0 := rd_cell T.ht 0
  have q1 := rd_cell T.ht 1
  have q2 := rd_cell T.ht 2
  simp [sub] at q0 q1 q2
  have hjr := joinR_ok g1 g2 g3
  simp [F56]
  refine hjoin.mono ?_
  rintro r h' ⟨rfl, rfl⟩
  simp [hjr]
  refine (good_spec T).mono ?_
  rintro r h' ⟨rfl, rfl⟩
  simp [fadV, q0, asV, aop_lookV, look_new T.h1, findM_names]
  cases hp : pos ks (joinB kd ps) 0 with
  | some j =>
    simp
    refine ⟨al, ?_, ?_, ⟨Nat.le_refl _, fun c _ _ _ _ _ => rfl⟩, fun c hc => .inl hc, fun _ _ => ⟨rfl, rfl⟩⟩
    · simp [putN, hp]
    · simpa [putT, hp] using T
  | none =>
    have hf1 : findM .str (.str (joinB kd ps)) (namesF ks 0) = some none := by rw [findM_names, hp]; rfl
    have hf2 : findM .str (.str (nameB (ks.length + 1))) (termsF ks 0) = some none := by rw [findM_terms, what_none]; rfl; intro j _ hj e; have := nameB_inj e; omega
    have hl := T.own.lenV
    have hw : IntKind.i64.wrap ((ks.length : Int) + 1) = ((ks.length + 1 : Nat) : Int) := by rw [wrap64 (by omega) (by omega)]; omega
    simp [fadV, asV, q2, hl, hw]
    refine (PCalls.at DX.low (name_spec (n := ks.length + 1) (by omega)) (fun a ha => by simp at ha; subst ha; exact .int _ _) _).mono ?_
    rintro r h'' ⟨rfl, rfl⟩
    generalize hJ : joinB kd ps = J at *
    have lτ := hget_lt T.ht
    have l1 := hget_lt T.h1
    have l2 := hget_lt T.h2
    have gA := ment_new T.h1 (z := .str []) hf1
    have hgA : hget (h''.set m1 (some (.map (namesF ks 0 ++ [(.str J, .str [])])))) m1 = some (.map (namesF ks 0 ++ [(.str J, .str [])])) := hget_set l1 _
    have gB := ests_last hgA (.str (nameB (ks.length + 1)))
    rw [List.set_set] at gB
    have hgB : hget (h''.set m1 (some (.map (namesF ks 0 ++ [(.str J, .str (nameB (ks.length + 1)))])))) m2 = some (.map (termsF ks 0)) := by rw [hget_set_ne T.d3]; exact T.h2
    have gC := ment_new hgB (z := .str []) hf2
    have hgC : hget ((h''.set m1 (some (.map (namesF ks 0 ++ [(.str J, .str (nameB (ks.length + 1)))])))).set m2 (some (.map (termsF ks 0 ++ [(.str (nameB (ks.length + 1)), .str [])])))) m2 = some (.map (termsF ks 0 ++ [(.str (nameB (ks.length + 1)), .str [])])) := hget_set (by simpa using l2) _
    have gD := ests_last hgC (.str J)
    rw [List.set_set] at gD
    generalize hhD : ((h''.set m1 (some (.map (namesF ks 0 ++ [(.str J, .str (nameB (ks.length + 1)))])))).set m2 (some (.map (termsF ks 0 ++ [(.str (nameB (ks.length + 1)), .str J)])))) = hD at gD
    have hlen : hD.length = h''.length := by rw [← hhD]; simp
    have keep : ∀ c, c ≠ m1 → c ≠ m2 → hget hD c = hget h'' c := fun c c1 c2 => by rw [← hhD, hget_set_ne (Ne.symm c2), hget_set_ne (Ne.symm c1)]
    have D1 : hget hD m1 = some (.map (namesF ks 0 ++ [(.str J, .str (nameB (ks.length + 1)))])) := by rw [← hhD, hget_set_ne (Ne.symm T.d3)]; exact hget_set l1 _
    have D2 : hget hD m2 = some (.map (termsF ks 0 ++ [(.str (nameB (ks.length + 1)), .str J)])) := by rw [← hhD]; exact hget_set (by simpa using l2) _
    have Dτ : hget hD τ = some (.cells [.map m1, .map m2, al] none) := by rw [keep τ T.d1 T.d2]; exact T.ht
    have Down : Vs.Own hD 0 1 false al ks.length (namesL ks 0) := T.own.keepB fun b hb => keep b (fun e => T.d5 (by rw [← e]; exact hb)) (fun e => T.d6 (by rw [← e]; exact hb))
    have p2 := rd_cell Dτ 2
    simp [sub] at p2
    obtain ⟨al', hE, a1, a2, a3, a4, a5, a6⟩ := Own.app (h := hD) (k := 0) (es := 1) (bt := 16) (ag := false) (ty := none) (v := al) (a := .lst true [.str (nameB (ks.length + 1))]) (m := 1) (zs := [.str (nameB (ks.length + 1))]) (Nat.zero_le _) Down (by simp [src, flat, V.cells]) rfl (by unfold room; omega)
    have Eτ : hget hE τ = some (.cells [.map m1, .map m2, al] none) := by rw [a4 τ (by omega) T.d4]; exact Dτ
    have one := a2.onec
    have S1 := st_cell Eτ (o := 2) one.1 one.2 (by simp)
    simp at S1
    refine vD_lin ?_
    simp [reL, vLs, vLg, vLq, dstO, nth_zero, nth_succ, nd, tell, fadV, asV, q0, q1, aop_mentV, aop_estsV, gA, gB, gC, gD, fillV, setAll, V.cells, V.one, chunk, p2, a1, S1]
    refine ⟨al', ?_, ?_, ⟨?_, ?_⟩, ?_, fun j hj => by rw [hp] at hj; cases hj⟩
    · simp [putN, hp]
    · have e : putT ks J = ks ++ [J] := by simp [putT, hp]
      rw [e]
      have lE : τ < hE.length := by omega
      refine ⟨hget_set lE _, ?_, ?_, ?_, T.d1, T.d2, T.d3, ?_, ?_, ?_, by simp; omega, fun k hk' => ?_⟩
      · rw [hget_set_ne T.d1, a4 m1 (by omega) T.d5, D1, namesF_snoc, Nat.zero_add]
      · rw [hget_set_ne T.d2, a4 m2 (by omega) T.d6, D2, termsF_snoc, Nat.zero_add]
      · rw [namesL_snoc, Nat.zero_add, List.length_append]
        refine a2.keepB fun b hb => hget_set_ne (fun e => ?_) _
        subst e
        rcases a5 with a5 | a5
        · rw [a5] at hb; exact T.d4 hb
        · rw [a5] at hb; cases hb; omega
      · intro e
        rcases a5 with a5 | a5
        · rw [a5] at e; exact T.d4 e
        · rw [a5] at e; cases e; omega
      · intro e
        rcases a5 with a5 | a5
        · rw [a5] at e; exact T.d5 e
        · rw [a5] at e; cases e; omega
      · intro e
        rcases a5 with a5 | a5
        · rw [a5] at e; exact T.d6 e
        · rw [a5] at e; cases e; omega
      · rcases List.mem_append.1 hk' with hk' | hk'
        · exact T.jn k hk'
        · simp at hk'; subst hk'
          exact ⟨kd, ps, hJ.symm, g1, g2, by rw [hJ]; exact g3, g4⟩
    · simp; omega
    · intro c hc c1 c2 c3 c4
      rw [hget_set_ne (Ne.symm c1), a4 c (by omega) c4, keep c c2 c3]
    · intro c hc
      rcases a5 with a5 | a5
      · rw [a5] at hc; exact .inl hc
      · rw [a5] at hc; cases hc; exact .inr (by omega)

theorem put_spec {h : Hp} {τ m1 m2 : Nat} {al : V} {ks : List (List UInt8)} (T : Tab h τ m1 m2 al ks) {l : V} {kd : UInt8} {ps : List (List UInt8)} (H : Fz 1 l ps.length (ps.map .str)) (hlow : Low 0 l)
    (g1 : ps.length ≤ 255) (g2 : ∀ p ∈ ps, p.length ≤ 4000) (g3 : (joinB kd ps).length ≤ 30000) (g4 : okP kd ps) (hk : ks.length < 999999) : ACalls DX 56 [.ptr τ 0, .int .u8 kd.toNat, l] h (PutR h τ m1 m2 al ks (joinB kd ps)) := put_spec0 T ((PCalls.at DX.low (join_spec (h := []) (k := kd) H (by omega) (LowH.zero _)) (fun a ha => by simp at ha; rcases ha with rfl | rfl; exact .int _ _; exact hlow) h).mono fun r h' hr => hr) g1 g2 g3 g4 hk

/-- What a name tells. -/
def partsV (ks : List (List UInt8)) (s : List UInt8) : V := match what ks s 0 with
  | none => .tup [.int .u8 0, .nsl, .bool false]
  | some k => match readB k with
    | some (kd, ps) => .tup [.int .u8 kd.toNat, frz ps, .bool true]
    | none => .tup [.int .u8 0, .nsl, .bool true]

theorem parts_spec {h : Hp} {τ m1 m2 : Nat} {al : V} {ks : List (List UInt8)} (T : Tab h τ m1 m2 al ks) (s : List UInt8) : ACalls DX 108 [.ptr τ 0, .str s] h fun r h' => r = .ret (partsV ks s) ∧ h' = h := by
  refine acall DX.ok ck108 rfl ?_
  have q1 := rd_cell T.ht 1
  simp [sub] at q1
  simp [F108]
  refine (good_spec T).mono ?_
  rintro r h' ⟨rfl, rfl⟩
  simp [fadV, q1, asV, aop_lookV, look_new T.h2, findM_terms]
  unfold partsV
  cases hw : what ks s 0 with
  | none => simp
  | some k =>
    obtain ⟨j, _, hj, hk⟩ := what_some _ _ _ _ hw
    obtain ⟨kd, ps, rfl, b1, b2, b3, b4⟩ := T.jn k (List.mem_of_getElem? hk)
    have hr := readB_joinB b1 b2 b3
    simp
    refine (PCalls.at DX.low (split_spec (h := []) (s := joinB kd ps) (by omega) (LowH.zero _)) (fun a ha => by simp at ha; subst ha; exact .str _) _).mono ?_
    rintro r h'' ⟨⟨rfl, _⟩, rfl⟩
    simp [splitV, hr]

theorem fz_lst (ex : Bool) (ps : List (List UInt8)) : Fz 1 (.lst ex (ps.map .str)) ps.length (ps.map .str) := fun h => by
  have h1 : ∀ x ∈ ps.map V.str, x.cells.length = 1 := by
    intro x hx; obtain ⟨c, _, rfl⟩ := List.mem_map.1 hx; rfl
  refine ⟨?_, rfl, trivial⟩
  simp only [src]
  rw [if_pos h1, flat_strs, List.length_map]

theorem low_lst (ex : Bool) (ps : List (List UInt8)) : Low 0 (.lst ex (ps.map .str)) := (fz_lst ex ps).low fun y hy => by
  obtain ⟨c, _, rfl⟩ := List.mem_map.1 hy; exact .str _

theorem hash_spec {h : Hp} {τ m1 m2 : Nat} {al : V} {ks : List (List UInt8)} (T : Tab h τ m1 m2 al ks) {ex : Bool} {ps : List (List UInt8)}
    (g1 : ps.length ≤ 255) (g2 : ∀ p ∈ ps, p.length ≤ 4000) (g3 : (joinB 4 ps).length ≤ 30000) (hk : ks.length < 999999) : ACalls DX 52 [.ptr τ 0, .lst ex (ps.map .str)] h (PutR h τ m1 m2 al ks (joinB 4 ps)) := by
  refine acall DX.ok ck52 rfl ?_
  simp [F52]
  refine (put_spec T (kd := 4) (ps := ps) (fz_lst ex ps) (low_lst ex ps) g1 g2 g3 ⟨(fun e => by cases e), (fun e => by cases e)⟩ hk).mono ?_
  rintro r h' ⟨al', rfl, h2⟩
  simp
  exact ⟨al', rfl, h2⟩

theorem seal_spec {h : Hp} {τ m1 m2 : Nat} {al : V} {ks : List (List UInt8)} (T : Tab h τ m1 m2 al ks) {a b c : List UInt8} {n : Nat} (hn : n < 18446744073709551616) (ha : a.length ≤ 4000) (hb : b.length ≤ 4000) (hc : c.length ≤ 4000) (hk : ks.length < 999999) :
    ACalls DX 54 [.ptr τ 0, .str a, .int .u64 n, .str b, .str c] h (PutR h τ m1 m2 al ks (joinB 5 [a, numB n, b, c])) := by
  refine acall DX.ok ck54 rfl ?_
  simp [F54]
  refine (PCalls.at DX.low (num_spec (h := []) (n := n) hn (LowH.zero _)) (fun a ha => by simp at ha; subst ha; exact .int _ _) _).mono ?_
  rintro r h' ⟨⟨rfl, _⟩, rfl⟩
  have hl := numB_len 8 (n := n) (by simpa using hn)
  simp [fillV, setAll, V.cells, V.one, chunk]
  refine (put_spec T (kd := 5) (ps := [a, numB n, b, c]) (fz_lst true [a, numB n, b, c]) (low_lst true [a, numB n, b, c]) (by simp) (by simp; omega) (by simp [joinB, part]; omega) ⟨(fun e => by cases e), fun _ => rfl⟩ hk).mono ?_
  rintro r h'' ⟨al', rfl, h2⟩
  simp
  exact ⟨al', rfl, h2⟩
end Go.Proofs.YtfinnljkcgglfaaDoor
