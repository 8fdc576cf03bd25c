/- Terms: digests and keys. -/
import Derived.Test.YtfinnljkcgglfaaDoorZiTabl
import Derived.Test.YtfinnljkcgglfaaDoorZv6
namespace Go.Proofs.YtfinnljkcgglfaaDoor
open Go Go.Vs Go.RowKit
set_option maxRecDepth 100000
set_option linter.unusedSimpArgs false
set_option linter.unusedVariables false
attribute [local simp] unV extV wanted strBin vpt vpn vmp nilV_ptr

def invVV (x : X) (m : String) (args : List V) : V → Option Rz
  | .ifc ty v => match x.M ty m with
    | some (f, none) => some (.call f (v :: args))
    | some (f, some off) => match v with
      | .agg cs => (cs[off]?).map fun c => .call f (c :: args)
      | _ => none
    | none => none
  | _ => none
theorem aop_invV {x : X} {t : Nat → V} {h : Hp} (r : O) (m : String) (args : List O) : aop x t h (.inv r m args) = invVV x m (evs x t args) (r.ev x t) := by
  simp only [aop, invVV]
  generalize r.ev x t = u
  cases u <;> rfl
theorem putN_of {ks : List (List UInt8)} {k : List UInt8} {j : Nat} (h : pos ks k 0 = some j) : putN ks k = j ∧ putT ks k = ks := by
  unfold putN putT; rw [h]; exact ⟨rfl, rfl⟩

/-- The law's world: its input, and a table. -/
structure LW (h : Hp) (al : V) (ks : List (List UInt8)) (c5 : List V) : Prop where
  tab : Tab h 3 1 2 al ks
  box : hget h 0 = some (.cells c5 none)
  ge : ∀ c, al.blk = some c → 4 ≤ c
  len : 4 ≤ h.length
theorem LW.put {h h' : Hp} {al : V} {ks : List (List UInt8)} {c5 : List V} (L : LW h al ks c5) {k : List UInt8} {r : Res} (H : PutR h 3 1 2 al ks k r h') :
    ∃ al', r = .ret (.str (nameB (putN ks k + 1))) ∧ LW h' al' (putT ks k) c5 ∧ (∀ j, pos ks k 0 = some j → h' = h ∧ al' = al) := by
  obtain ⟨al', rfl, T', R', B', S'⟩ := H
  refine ⟨al', rfl, ⟨T', ?_, fun c hc => ?_, Nat.le_trans L.len R'.1⟩, S'⟩
  · rw [R'.2 0 (by have := L.len; omega) (by omega) (by omega) (by omega) (fun e => by have := L.ge 0 e; omega)]; exact L.box
  · rcases B' c hc with hb | hb
    · exact L.ge c hb
    · have := L.len; omega
theorem LW.keep {h h' : Hp} {al : V} {ks : List (List UInt8)} {c5 : List V} (L : LW h al ks c5) (hl : h.length ≤ h'.length) (hk : ∀ c, c < h.length → hget h' c = hget h c) : LW h' al ks c5 :=
  ⟨L.tab.keep hk, by rw [hk 0 (by have := L.len; omega)]; exact L.box, L.ge, Nat.le_trans L.len hl⟩

theorem keyOf_len {i : Nat} {a b : List UInt8} (hi : i < 10) (ha : a.length ≤ 4000) (hb : b.length ≤ 4000) : (∀ p ∈ [[107, 101, 121], numB (i + 1), a, b], p.length ≤ 4000) ∧ (joinB 4 [[107, 101, 121], numB (i + 1), a, b]).length ≤ 30000 := by
  have := numB_len 8 (n := i + 1) (by omega)
  refine ⟨by simp; omega, by simp [joinB, part]; omega⟩
def KK (a b : List UInt8) (i : Nat) : List UInt8 := joinB 4 [[107, 101, 121], numB (i + 1), a, b]

theorem symHash_spec {h : Hp} {al : V} {ks : List (List UInt8)} {c5 : List V} (L : LW h al ks c5) {a b : List UInt8} (ha : a.length ≤ 4000) (hb : b.length ≤ 4000) (hk : ks.length < 999) :
    ACalls DX 105 [.agg [.ptr 3 0], .str a, .str b] h fun r h' => ∃ al', r = .ret (.str (nameB (putN ks (joinB 4 [[104, 97, 115, 104], a, b]) + 1))) ∧ LW h' al' (putT ks (joinB 4 [[104, 97, 115, 104], a, b])) c5 := by
  refine acall DX.ok ck105 rfl ?_
  have q0 : rd (h ++ [some (.cells [V.ptr 3 0] none)]) (.ptr h.length 0) 1 = some [.ptr 3 0] := by simp [rd, hget_new, sub]
  simp [F105, V.cells, V.one, fadV, q0, asV, fillV, setAll, chunk]
  have L1 : LW (h ++ [some (.cells [V.ptr 3 0] none)]) al ks c5 := L.keep (by simp) fun c hc => hget_old hc _
  refine (hash_spec L1.tab (ex := true) (ps := [[104, 97, 115, 104], a, b]) (by simp) (by simp; omega) (by simp [joinB, part]; omega) (by omega)).mono ?_
  rintro r h' H
  obtain ⟨al', rfl, L2, _⟩ := L1.put H
  simp
  exact ⟨al', L2⟩

/-- What Keys tells of terms. -/
def KeysR (n : Nat) (a b : List UInt8) (c5 : List V) (r : Res) (h' : Hp) : Prop :=
  ∃ (v al' : V) (ks' : List (List UInt8)) (ix : List Nat), r = .ret v ∧ LW h' al' ks' c5 ∧ Vs.Own h' 4 1 false v n (ix.map fun N => .str (nameB (N + 1))) ∧ ix.length = n ∧ (∀ i N, ix[i]? = some N → pos ks' (KK a b i) 0 = some N) ∧ (∀ c, v.blk = some c → al'.blk ≠ some c) ∧ ks'.length < 999
def kInv (m n : Nat) (b0 : Nat) (a b : List UInt8) (c5 : List V) (k0 : Nat) (k : Nat) (st : St) : Prop :=
  ∃ (i : Nat) (v al : V) (ks : List (List UInt8)) (ix : List Nat), k + i = n ∧ st.t 4 = .ptr b0 0 ∧ st.t 1 = .str a ∧ st.t 2 = .str b ∧ st.t 18 = .int .i64 n ∧ st.t 19 = .int .i64 i ∧ st.t 9 = v ∧ st.d = [] ∧ LW st.h al ks c5 ∧ hget st.h b0 = some (.cells [.ptr 3 0] none) ∧
    4 ≤ b0 ∧ al.blk ≠ some b0 ∧ v.blk ≠ some b0 ∧ Vs.Own st.h 4 1 false v i (ix.map fun N => .str (nameB (N + 1))) ∧ ix.length = i ∧ (∀ j N, ix[j]? = some N → pos ks (KK a b j) 0 = some N) ∧ (∀ c, v.blk = some c → al.blk ≠ some c) ∧ ks.length ≤ k0 + i ∧ b0 < st.h.length

set_option maxHeartbeats 1000000 in
theorem symKeys_spec {h : Hp} {al : V} {ks : List (List UInt8)} {c5 : List V} (L : LW h al ks c5) {a b : List UInt8} (ha : a.length ≤ 4000) (hb : b.length ≤ 4000) (hk : ks.length < 900) {n : Nat} (hn1 : 1 ≤ n) (hn3 : n ≤ 3) :
    ACalls DX 106 [.agg [.ptr 3 0], .str a, .str b, .int .i64 n] h (KeysR n a b c5) := by
  refine acall DX.ok ck106 rfl ?_
  have g1 : ¬ (n : Int) < 1 := by omega
  have g1' : (1 : Int) ≤ n := by omega
  have g2 : ¬ 3 < (n : Int) := by omega
  have g2' : (n : Int) ≤ 3 := by omega
  have g3 : ¬ n = 0 := by omega
  have g4 : 0 < n := by omega
  simp [F106, V.cells, V.one, g1, g1', g2, g2', g3, g4]
  have L1 : LW (h ++ [some (.cells [V.ptr 3 0] none)]) al ks c5 := L.keep (by simp) fun c hc => hget_old hc _
  refine vc_loop _ _ _ (kInv 0 n h.length a b c5 ks.length) n ⟨0, .nsl, al, ks, [], by simp, by simp, by simp, by simp, by simp, by simp, by simp, rfl, L1, hget_new _ _, L.len, (fun e => by have := L.tab.own.blk_lt e; omega), (fun e => by cases e), ⟨rfl, .inl ⟨rfl, rfl⟩⟩, rfl, (fun j N e => by simp at e), (fun c e => by cases e), by simp, by simp⟩ ?_
  rintro k ⟨t, h1, d⟩ ⟨i, v, al1, ks1, ix, hki, t4, t1, t2, t18, t19, t9, hd, W, hb0, hb4, hab, hvb, hO, hix, hpos, hdis, hkl, hbl⟩
  simp only at t4 t1 t2 t18 t19 t9 hd W hb0 hO hbl
  subst hd
  by_cases hi : i < n
  · have hii : (i : Int) < n := by omega
    have hii' : ¬ (n : Int) ≤ i := by omega
    have q0 := rd_cell hb0 0
    simp [sub] at q0
    have w1 : IntKind.i64.wrap ((i : Int) + 1) = ((i + 1 : Nat) : Int) := by rw [wrap64 (by omega) (by omega)]; omega
    have c1 : cviV .u64 (.int .i64 ((i + 1 : Nat) : Int)) = some (.int .u64 ((i + 1 : Nat) : Int)) := by
      simp only [cviV, Option.some.injEq, V.int.injEq, true_and]
      exact wrapu64 (by omega) (by omega)
    simp [t19, t18, hii, hii']
    refine vD_lin ?_
    simp [reL, vLs, vLg, vLq, dstO, nth_zero, nth_succ, nd, tell, fadV, asV, t4, t1, t2, q0, w1]
    have c1' : cviV .u64 (.int .i64 ((i : Int) + 1)) = some (.int .u64 ((i : Int) + 1)) := c1
    simp [c1']
    refine (PCalls.at DX.low (show PCalls DX 57 [.int .u64 ((i : Int) + 1)] fun r => r = .ret (.str (numB (i + 1))) from num_spec (h := []) (n := i + 1) (by omega) (LowH.zero _)) (fun a ha => by simp at ha; subst ha; exact .int _ _) _).mono ?_
    rintro r h2 ⟨rfl, rfl⟩
    have hkl2 := keyOf_len (i := i) (by omega) ha hb
    simp [reL, vLs, vLg, vLq, dstO, nth_zero, nth_succ, nd, tell, fadV, asV, t4, t1, t2, q0, fillV, setAll, V.cells, V.one, chunk]
    refine (hash_spec W.tab (ex := true) (ps := [[107, 101, 121], numB (i + 1), a, b]) (by simp) hkl2.1 hkl2.2 (by omega)).mono ?_
    rintro r h3 H
    obtain ⟨al', B', W2⟩ : ∃ al', (∀ c, al'.blk = some c → al1.blk = some c ∨ h2.length ≤ c) ∧ r = .ret (.str (nameB (putN ks1 (KK a b i) + 1))) ∧ LW h3 al' (putT ks1 (KK a b i)) c5 ∧ Rest h2 h3 3 1 2 al1 := by
      obtain ⟨al', e1, T', R', B', S'⟩ := H
      obtain ⟨al2, f1, f2, f3⟩ := W.put ⟨al', e1, T', R', B', S'⟩
      refine ⟨al', B', e1, ⟨T', f2.box, fun c hc => ?_, f2.len⟩, R'⟩
      rcases B' c hc with hb' | hb'
      · exact W.ge c hb'
      · have := W.len; omega
    obtain ⟨rfl, W3, R3⟩ := W2
    have hne : nameB (putN ks1 (KK a b i) + 1) ≠ [] := by simp [nameB]
    have hb3 : hget h3 h.length = some (.cells [.ptr 3 0] none) := by rw [R3.2 h.length hbl (by omega) (by omega) (by omega) hab]; exact hb0
    have hO3 : Vs.Own h3 4 1 false v i (ix.map fun N => .str (nameB (N + 1))) := hO.keepB fun c hc => R3.2 c (hO.blk_lt hc) (by have := hO.blk_ge hc; omega) (by have := hO.blk_ge hc; omega) (by have := hO.blk_ge hc; omega) (hdis c hc)
    obtain ⟨v', h4, a1, a2, a3, a4, a5, a6⟩ := Own.app (h := h3) (k := 4) (es := 1) (bt := 16) (ag := false) (ty := none) (v := v) (a := .lst true [.str (nameB (putN ks1 (KK a b i) + 1))]) (m := 1) (zs := [.str (nameB (putN ks1 (KK a b i) + 1))]) W3.len hO3 (by simp [src, flat, V.cells]) rfl (by unfold room; omega)
    have hvt : ∀ c, v.blk = some c → 4 ≤ c := fun c hc => hO.blk_ge hc
    have hval : ∀ c, v.blk = some c → al'.blk ≠ some c := fun c hc e => by
      rcases B' c e with hb' | hb'
      · exact hdis c hc hb'
      · have := hO.blk_lt hc; omega
    have k4 : ∀ c, c < h3.length → v.blk ≠ some c → hget h4 c = hget h3 c := a4
    have W4 : LW h4 al' (putT ks1 (KK a b i)) c5 := by
      have hτ := hget_lt W3.tab.ht
      have hm1 := hget_lt W3.tab.h1
      have hm2 := hget_lt W3.tab.h2
      refine ⟨⟨?_, ?_, ?_, ?_, W3.tab.d1, W3.tab.d2, W3.tab.d3, W3.tab.d4, W3.tab.d5, W3.tab.d6, W3.tab.lt, W3.tab.jn⟩, ?_, W3.ge, Nat.le_trans W3.len a6⟩
      · rw [k4 3 hτ (fun e => by have := hvt 3 e; omega)]; exact W3.tab.ht
      · rw [k4 1 hm1 (fun e => by have := hvt 1 e; omega)]; exact W3.tab.h1
      · rw [k4 2 hm2 (fun e => by have := hvt 2 e; omega)]; exact W3.tab.h2
      · exact W3.tab.own.keepB fun c hc => k4 c (W3.tab.own.blk_lt hc) (fun e => hval c e hc)
      · rw [k4 0 (by have := W3.len; omega) (fun e => by have := hvt 0 e; omega)]; exact W3.box
    have hb4' : hget h4 h.length = some (.cells [.ptr 3 0] none) := by rw [k4 h.length (hget_lt hb3) hvb]; exact hb3
    have w2 : IntKind.i64.wrap ((i : Int) + 1) = (i : Int) + 1 := by rw [w1]; rfl
    have hemp : (nameB (putN ks1 (KK a b i) + 1)).isEmpty = false := rfl
    simp [hne, hemp, t9, a1, t19, w2, fillV, setAll, V.cells, V.one, chunk]
    refine ⟨k - 1, by omega, i + 1, v', al', putT ks1 (KK a b i), ix ++ [putN ks1 (KK a b i)], by omega, by simp [t4], by simp [t1], by simp [t2], by simp [t18], by simp, by simp, rfl, W4, hb4', hb4, ?_, ?_, ?_, by simp [hix], ?_, ?_, ?_, ?_⟩
    · intro e
      rcases B' _ e with hb' | hb'
      · exact hab hb'
      · omega
    · intro e
      rcases a5 with a5 | a5
      · rw [a5] at e; exact hvb e
      · rw [a5] at e; have := Option.some.inj e; have := hget_lt hb3; omega
    · rw [List.map_append]; exact a2
    · intro j N hj
      rcases Nat.lt_or_ge j ix.length with hj2 | hj2
      · rw [List.getElem?_append_left hj2] at hj
        exact pos_putT_old (hpos j N hj)
      · rw [List.getElem?_append_right hj2] at hj
        have hje : j - ix.length = 0 := by
          rcases Nat.eq_zero_or_pos (j - ix.length) with h0 | h0
          · exact h0
          · rw [List.getElem?_eq_none (by simp; omega)] at hj; cases hj
        rw [hje] at hj
        simp at hj
        subst hj
        have : j = i := by omega
        subst this
        exact pos_putT _ _
    · intro c hc e
      rcases a5 with a5 | a5
      · rw [a5] at hc; exact hval c hc e
      · rw [a5] at hc; cases hc
        have := W3.tab.own.blk_lt e
        omega
    · have := putT_len ks1 (KK a b i); omega
    · have := hget_lt hb4'; exact this
  · have hin : i = n := by omega
    subst hin
    have hii : ¬ (i : Int) < i := by omega
    simp [t19, t18, hii, t9]
    exact ⟨v, al1, ks1, ix, rfl, W, hO, hix, hpos, hdis, by omega⟩
end Go.Proofs.YtfinnljkcgglfaaDoor
