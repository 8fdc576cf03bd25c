/- PrimsTerms: the law (2). -/
import Derived.Test.YtfinnljkcgglfaaGreatDoorZhLawT1
namespace Go.Proofs.YtfinnljkcgglfaaGreatDoor
open Go Go.Vs Go.RowKit
set_option maxRecDepth 100000
set_option linter.unusedSimpArgs false
set_option linter.unusedVariables false
attribute [local simp] unV extV wanted strBin vpt vpn vmp nilV_ptr vic

theorem lenV_nsl (h : Hp) : lenV h .slc .nsl = some (.int .i64 0) := rfl
theorem hashK {h : Hp} {al : V} {ks : List (List UInt8)} {c5 : List V} (L : LW h al ks c5) {a b : List UInt8} {i j : Nat} (hi : i < 10) (ha : a.length ≤ 4000) (hb : b.length ≤ 4000) (hk : ks.length < 999) (P : pos ks (KK a b i) 0 = some j) : ACalls GX 17 [.ptr 3 0, .lst true [.str [107, 101, 121], .str (numB (i + 1)), .str a, .str b]] h fun r h' => r = .ret (.str (nameB (j + 1))) ∧ h' = h := by
  have hkl := keyOf_len (i := i) hi ha hb
  refine (hash_spec L.tab (ex := true) (ps := [[107, 101, 121], numB (i + 1), a, b]) (by simp) hkl.1 hkl.2 (by omega)).mono ?_
  intro r h' H
  have H2 := L.put H
  obtain ⟨al', e, L', S⟩ := H2
  have P' : pos ks (joinB 4 [[107, 101, 121], numB (i + 1), a, b]) 0 = some j := P
  rw [(putN_of P').1] at e
  exact ⟨e, (S j P').1⟩
theorem keys_early {h : Hp} {a b : List UInt8} {n : Int} (hn : n < 1 ∨ 3 < n) : ACalls GX 132 [.agg [.ptr 3 0], .str a, .str b, .int .i64 n] h fun r h' => r = .ret .nsl ∧ h' = h ++ [some (.cells [.ptr 3 0] none)] := by
  refine acall GX.ok ck132 rfl ?_
  rcases hn with hn | hn
  · simp [F132, V.cells, V.one, hn]
  · have h1 : ¬ n < 1 := by omega
    have h1' : 1 ≤ n := by omega
    simp [F132, V.cells, V.one, hn, h1, h1']

def rInv (v al : V) (h : Hp) (n : Nat) (k : Nat) (st : St) : Prop :=
  ∃ i : Nat, k + i = n ∧ st.h = h ∧ st.d = [] ∧ st.t 2 = .ptr 0 0 ∧ st.t 5 = .ptr 3 0 ∧ st.t 17 = v ∧ st.t 160 = .int .i64 n ∧ st.t 161 = .int .i64 i
theorem tail_law {A B : List UInt8} {N : Nat} {Ad X : List UInt8} {n : Int} {h : Hp} {t : Nat → V} {al : V} {ks : List (List UInt8)} (hN : N < 18446744073709551616) (hA : A.length ≤ 1000) (hB : B.length ≤ 1000) (L : LW h al ks (twoV A B N Ad X)) (hk : ks.length ≤ 4)
    (g1 : t 1 = .int .i64 n) (g2 : t 2 = .ptr 0 0) (g5 : t 5 = .ptr 3 0) (g6 : t 6 = .ifc 75 (.agg [.ptr 3 0])) : vc GX tailC (pst [.t 4] fun r _ => r = .ret (.bool true)) ⟨t, h, []⟩ := by
  obtain ⟨d0, d1, d2, d3, d4⟩ := L.q
  unfold tailC
  simp [g1, g2, g5, g6, fadV, d0, d1, asV, aop_invV, iKeys]
  by_cases hn : n < 1 ∨ 3 < n
  · refine (keys_early hn).mono ?_
    rintro r h' ⟨rfl, rfl⟩
    rcases hn with hn | hn
    · simp [g1, hn, lenV_nsl]
    · have h1 : ¬ n < 1 := by omega
      have h1' : 1 ≤ n := by omega
      simp [g1, hn, h1, h1', lenV_nsl]
  · obtain ⟨m, rfl⟩ : ∃ m : Nat, n = m := ⟨n.toNat, by omega⟩
    have h1 : ¬ (m : Int) < 1 := by omega
    have h1' : (1 : Int) ≤ m := by omega
    have h2 : ¬ 3 < (m : Int) := by omega
    have h2' : (m : Int) ≤ 3 := by omega
    have h3 : ¬ m = 0 := by omega
    have h4 : 0 < m := by omega
    have h5 : m ≤ 3 := by omega
    have h6 : 1 ≤ m := by omega
    refine (symKeys_spec L (a := A) (b := B) (by omega) (by omega) (by omega) (n := m) (by omega) (by omega)).mono ?_
    intro r h' HK
    obtain ⟨v, al', ks', ix, rfl, W, hO, hix, hpos, hdis, hkl⟩ := HK
    obtain ⟨e0, e1, e2, e3, e4⟩ := W.q
    have hlen := hO.lenV
    simp [g1, h1, h1', h2, h2', h3, h4, h5, h6, hlen]
    refine vc_loop _ _ _ (rInv v al' h' m) m ⟨0, by simp, by simp, by simp, by simp [g2], by simp [g5], by simp, by simp, by simp⟩ ?_
    rintro k ⟨t', h', d⟩ ⟨i, hki, rfl, hd, t2, t5, t17, t160, t161⟩
    simp only at hd t2 t5 t17 t160 t161
    subst hd
    by_cases hi : i < m
    · have hii : (i : Int) < m := by omega
      have hii' : ¬ (m : Int) ≤ i := by omega
      obtain ⟨a, hia, hra⟩ := hO.at hi
      have w1 : IntKind.i64.wrap ((i : Int) + 1) = ((i + 1 : Nat) : Int) := by rw [wrap64 (by omega) (by omega)]; omega
      have c1 : cviV .u64 (.int .i64 ((i + 1 : Nat) : Int)) = some (.int .u64 ((i + 1 : Nat) : Int)) := by
        simp only [cviV, Option.some.injEq, V.int.injEq, true_and]
        exact wrapu64 (by omega) (by omega)
      have c1' : cviV .u64 (.int .i64 ((i : Int) + 1)) = some (.int .u64 ((i : Int) + 1)) := c1
      simp [t160, t161, hii, hii', hi]
      refine vD_lin ?_
      simp [reL, vLs, vLg, vLq, dstO, nth_zero, nth_succ, nd, tell, fadV, asV, t17, t2, t5, hia, hra, w1, c1, c1', e0, e1]
      refine (PCalls.at GX.low (show PCalls GX 20 [.int .u64 ((i : Int) + 1)] fun r => r = .ret (.str (numB (i + 1))) from num_spec (h := []) (n := i + 1) (by omega) (LowH.zero _)) (fun a ha => by simp at ha; subst ha; exact .int _ _) _).mono ?_
      rintro r h2 ⟨rfl, rfl⟩
      simp [reL, vLs, vLg, vLq, dstO, nth_zero, nth_succ, nd, tell, fadV, asV, t17, t2, t5, hia, hra, w1, c1, c1', e0, e1, fillV, setAll, V.cells, V.one, chunk]
      have hx : ∃ N', ix[i]? = some N' := ⟨ix[i]'(by omega), List.getElem?_eq_getElem (by omega)⟩
      obtain ⟨N', hx⟩ := hx
      refine (hashK W (i := i) (by omega) (a := A) (b := B) (by omega) (by omega) hkl (hpos i N' hx)).mono ?_
      rintro r h3 ⟨rfl, rfl⟩
      simp [reL, vLs, vLg, vLq, dstO, nth_zero, nth_succ, nd, tell, fadV, asV, t17, t2, t5, hia, hra, w1, c1, c1', e0, e1, hx]
      simp [t161, w1]
      exact ⟨k - 1, by omega, i + 1, by omega, rfl, rfl, by simp [t2], by simp [t5], by simp [t17], by simp [t160], by simp⟩
    · have hii : ¬ (i : Int) < m := by omega
      have hii' : (m : Int) ≤ i := by omega
      simp [t160, t161, hii, hii', hi]

set_option maxHeartbeats 4000000 in
theorem terms_law {A B : List UInt8} {N : Nat} {Ad X : List UInt8} (hN : N < 18446744073709551616) (n : Int) : PCalls GX 4 [.agg (twoV A B N Ad X), .int .i64 n] fun r => r = .ret (.bool true) := by
  refine PCalls.of (acall GX.ok ck4 rfl ?_) fun r hr => by subst hr; exact .bool _
  have hone : ∀ c ∈ twoV A B N Ad X, c.one = true := by simp [twoV, V.one]
  have hlow : Low 0 (.agg (twoV A B N Ad X)) := .agg _ (by simp [twoV]; exact ⟨.str _, .str _, .int _ _, .str _, .str _⟩)
  have hl5 : (twoV A B N Ad X).length = 5 := rfl
  simp only [F4_eq, F4']
  simp [V.cells, eq_true hone]
  refine (PCalls.at GX.low alive11 (fun a ha => by cases ha) _).mono ?_
  rintro r h' ⟨rfl, rfl⟩
  simp
  refine (new_spec _).mono ?_
  rintro r h' ⟨rfl, rfl⟩
  simp
  refine (symbol_spec 3 _).mono ?_
  rintro r h' ⟨rfl, rfl⟩
  have L0 := LW0 (twoV A B N Ad X)
  generalize hh0 : [some (Blk.cells (twoV A B N Ad X) none), some (Blk.map []), some (Blk.map []), some (Blk.cells [.map 1, .map 2, .nsl] none)] = h0 at L0 ⊢
  have hrd : rd h0 (.ptr 0 0) 5 = some (twoV A B N Ad X) := by rw [← hh0]; simp [rd, hget, sub, hl5, List.take_of_length_le]
  simp [hrd, asV]
  refine (PCalls.at GX.low (few_spec A B N Ad X) (fun a ha => by simp at ha; subst ha; exact hlow) _).mono ?_
  rintro r h' ⟨rfl, rfl⟩
  by_cases hf : A.length ≤ 1000 ∧ B.length ≤ 1000 ∧ Ad.length ≤ 1000 ∧ X.length ≤ 1000
  · obtain ⟨hA, hB, hAd, hX⟩ := hf
    obtain ⟨a0, a1, a2, a3, a4⟩ := L0.q
    simp [hA, hB, hAd, hX, fadV, a0, asV, aop_invV, iPub]
    refine (pub_spec L0.tab (a := A) (by omega) (by simp)).mono ?_
    rintro r h1 H
    obtain ⟨al1, rfl, L1, _⟩ := L0.put H
    clear H
    have P1 := pos_putT [] (joinB 2 [A])
    have hl1 := putT_len [] (joinB 2 [A])
    generalize hn1 : putN [] (joinB 2 [A]) = n1 at P1 ⊢
    generalize hk1 : putT [] (joinB 2 [A]) = ks1 at P1 L1 hl1
    obtain ⟨b0, b1, b2, b3, b4⟩ := L1.q
    simp [fadV, b1, asV, aop_invV, iDh]
    refine (dh_spec L1.tab (s := B) (p := nameB (n1 + 1)) (by omega) (by simp at hl1; omega)).mono ?_
    rintro r h2 H
    obtain ⟨al2, rfl, L2⟩ := L1.dh (dhOf_name (by omega) P1) H
    clear H
    have P2 := pos_putT ks1 (joinB 3 (two B A))
    have Q2 : pos (putT ks1 (joinB 3 (two B A))) (joinB 2 [A]) 0 = some n1 := pos_putT_old P1
    have hl2 := putT_len ks1 (joinB 3 (two B A))
    generalize hn2 : putN ks1 (joinB 3 (two B A)) = n2 at P2 ⊢
    generalize hk2 : putT ks1 (joinB 3 (two B A)) = ks2 at P2 Q2 L2 hl2
    obtain ⟨c0, c1, c2, c3, c4⟩ := L2.q
    simp at hl1
    simp
    refine vD_lin ?_
    simp (maxSteps := 4000000) [reL, vLs, vLg, vLq, dstO, nth_zero, nth_succ, nd, tell, fadV, asV, c0, c1]
    refine (pub2 L2 (a := A) (by omega) (by omega) Q2).mono ?_
    rintro r h3 ⟨rfl, rfl⟩
    simp (maxSteps := 4000000) [reL, vLs, vLg, vLq, dstO, nth_zero, nth_succ, nd, tell, fadV, asV, c0, c1]
    refine (dh_spec L2.tab (s := B) (p := nameB (n1 + 1)) (by omega) (by omega)).mono ?_
    rintro r h4 H
    have H2 := L2.dh (dhOf_name (by omega) Q2) H
    rw [(putN_of P2).1, (putN_of P2).2] at H2
    clear H
    obtain ⟨al4, rfl, L4⟩ := H2
    simp (maxSteps := 4000000) [reL, vLs, vLg, vLq, dstO, nth_zero, nth_succ, nd, tell, fadV, asV]
    refine vD_lin ?_
    refine regT (n2 := n2) hN hA hB hAd hX L4 (by omega) Q2 (by simp) (by simp) (by simp) (by simp) (by simp) (by simp) (by simp) (by simp) ?_
    intro t6 h6 al6 ks6 m1 g118 g1 g2 g5 g6 L6 P6 hl6
    simp at g1
    have hq6 := L6.q
    obtain ⟨d0, d1, d2, d3, d4⟩ := hq6
    simp [g118, g1, g2, g5, g6, fadV, d1, asV]
    refine (parts_spec L6.tab B).mono ?_
    rintro r h7 ⟨rfl, rfl⟩
    cases hw : what ks6 B 0 with
    | none =>
      simp [partsV, hw, g1, g2, g5, g6, fadV, d0, d1, asV, aop_invV, iDh]
      refine (dh_spec L6.tab (s := A) (p := B) (by omega) (by omega)).mono ?_
      intro r h8 H
      have hd : dhOf ks6 B = none := by unfold dhOf; rw [hw]
      unfold DhR at H
      rw [hd] at H
      obtain ⟨rfl, rfl⟩ := H
      simp [g1, g2, g5, g6]
      exact tail_law (n := n) hN hA hB L6 (by omega) (by simp [g1]) (by simp [g2]) (by simp [g5]) (by simp [g6])
    | some k =>
      have hp : ∃ a b, partsV ks6 B = .tup [a, b, .bool true] := by
        unfold partsV; rw [hw]; simp only
        split <;> exact ⟨_, _, rfl⟩
      obtain ⟨pa, pb, hp⟩ := hp
      simp [hp, g1, g2, g5, g6]
      exact tail_law (n := n) hN hA hB L6 (by omega) (by simp [g1]) (by simp [g2]) (by simp [g5]) (by simp [g6])
  · simp [hf]
end Go.Proofs.YtfinnljkcgglfaaGreatDoor
