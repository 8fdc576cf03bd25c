/- Two texts in order; what two terms come to. -/
import Derived.Test.YtfinnljkcgglfaaGreatDoorZhTabl
import Derived.Test.YtfinnljkcgglfaaGreatDoorZv6
namespace Go.Proofs.YtfinnljkcgglfaaGreatDoor
open Go Go.Vs Go.RowKit
set_option maxRecDepth 100000
set_option linter.unusedSimpArgs false
set_option linter.unusedVariables false
attribute [local simp] unV extV wanted strBin vpt vpn vmp nilV_ptr

theorem isNaN_spec (s : List UInt8) : PCalls GX 86 [.str s] fun r => r = .ret (.bool false) := by
  refine PCalls.of (acall GX.ok ck86 rfl ?_) fun r hr => by subst hr; exact .bool _
  simp [F86]
theorem less_spec (s p : List UInt8) : PCalls GX 62 [.str s, .str p] fun r => r = .ret (.bool (Op.bytesLess s p)) := by
  refine PCalls.of (acall GX.ok ck62 rfl ?_) fun r hr => by subst hr; exact .bool _
  simp [F62]
  refine (PCalls.at GX.low (isNaN_spec s) (fun a ha => by simp at ha; subst ha; exact .str _) _).mono ?_
  rintro r h' ⟨rfl, rfl⟩
  simp
def two (s p : List UInt8) : List (List UInt8) := if Op.bytesLess p s then [p, s] else [s, p]

def o56 (b : Nat) (h : Hp) (k : Nat) (st : St) : Prop := st.t 0 = .sl b 0 2 2 true 1 false ∧ st.t 1 = .int .i64 0 ∧ st.t 2 = .int .i64 2 ∧ st.d = [] ∧
  ((k = 1 ∧ st.t 6 = .int .i64 1 ∧ ∃ s p, hget st.h b = some (.cells [.str s, .str p] none) ∧ st.h.set b (some (.cells ((two s p).map .str) none)) = h) ∨ (k = 0 ∧ st.t 6 = .int .i64 2 ∧ st.h = h))
def i56 (b : Nat) (h : Hp) (k : Nat) (st : St) : Prop := st.t 0 = .sl b 0 2 2 true 1 false ∧ st.t 1 = .int .i64 0 ∧ st.t 2 = .int .i64 2 ∧ st.d = [] ∧ st.t 6 = .int .i64 1 ∧
  ((k = 1 ∧ st.t 7 = .int .i64 1 ∧ ∃ s p, hget st.h b = some (.cells [.str s, .str p] none) ∧ st.h.set b (some (.cells ((two s p).map .str) none)) = h) ∨ (k = 0 ∧ st.t 7 = .int .i64 0 ∧ st.h = h))

theorem set_self {h : Hp} {b : Nat} {x : Blk} (hg : hget h b = some x) : h.set b (some x) = h := by
  have h1 : h[b]? = some (some x) := by
    unfold hget at hg
    cases hh : h[b]? with
    | none => rw [hh] at hg; cases hg
    | some y => rw [hh] at hg; simp at hg; rw [hg]
  apply List.ext_getElem?
  intro i
  rw [List.getElem?_set]
  split
  · rename_i e; subst e
    split
    · exact h1.symm
    · rename_i hn; rw [List.getElem?_eq_none (by omega)] at h1; cases h1
  · rfl

theorem sort56 {h : Hp} {b : Nat} {s p : List UInt8} (hg : hget h b = some (.cells [.str s, .str p] none)) : ACalls GX 56 [.sl b 0 2 2 true 1 false, .int .i64 0, .int .i64 2] h fun r h' => r = .ret (.tup []) ∧ h' = h.set b (some (.cells ((two s p).map .str) none)) := by
  refine acall GX.ok ck56 rfl ?_
  have w1 : IntKind.i64.wrap 1 = 1 := by decide
  simp [F56, w1]
  refine vc_loop _ _ _ (o56 b (h.set b (some (.cells ((two s p).map .str) none)))) 1 ⟨by simp, by simp, by simp, rfl, .inl ⟨rfl, by simp, s, p, hg, rfl⟩⟩ ?_
  rintro k ⟨t, h1, d⟩ ⟨t0, t1, t2, hd, hcs⟩
  simp only at t0 t1 t2 hd hcs
  subst hd
  rcases hcs with ⟨rfl, t6, s1, p1, hg1, he⟩ | ⟨rfl, t6, he⟩
  · simp [t6, t2]
    refine vc_loop _ _ _ (i56 b (h.set b (some (.cells ((two s p).map .str) none)))) 1 ⟨by simp [t0], by simp [t1], by simp [t2], rfl, by simp [t6], .inl ⟨rfl, by simp, s1, p1, hg1, he⟩⟩ ?_
    rintro k ⟨t, h2, d⟩ ⟨t0, t1, t2, hd, t6, hcs⟩
    simp only at t0 t1 t2 hd hcs t6
    subst hd
    rcases hcs with ⟨rfl, t7, s2, p2, hg2, he2⟩ | ⟨rfl, t7, he2⟩
    · have q0 := rd_cell hg2 0
      have q1 := rd_cell hg2 1
      simp [sub] at q0 q1
      have a1 : iadV 1 (.sl b 0 2 2 true 1 false) (.int .i64 1) = some (.ptr b 1) := by simp [iadV]
      have a0 : iadV 1 (.sl b 0 2 2 true 1 false) (.int .i64 0) = some (.ptr b 0) := by simp [iadV]
      have w0 : IntKind.i64.wrap 0 = 0 := by decide
      refine vD_lin ?_
      simp [reL, vLs, vLg, vLq, dstO, nth_zero, nth_succ, nd, tell, t7, t1, t0, a1, a0, q0, q1, asV, w0]
      refine (PCalls.at GX.low (less_spec p2 s2) (fun a ha => by simp at ha; rcases ha with rfl | rfl <;> exact .str _) _).mono ?_
      rintro r h3 ⟨rfl, rfl⟩
      simp [reL, vLs, vLg, vLq, dstO, nth_zero, nth_succ, nd, tell]
      cases hl : Op.bytesLess p2 s2 with
      | false =>
        have e2 : two s2 p2 = [s2, p2] := by unfold two; rw [hl]; rfl
        rw [e2, List.map_cons, List.map_cons, List.map_nil, set_self hg2] at he2
        have w2 : IntKind.i64.wrap 2 = 2 := by decide
        simp [t6, w2]
        exact ⟨by simp [t0], by simp [t1], by simp [t2], rfl, .inr ⟨rfl, by simp, he2⟩⟩
      | true =>
        have e2 : two s2 p2 = [p2, s2] := by unfold two; rw [hl]; rfl
        rw [e2, List.map_cons, List.map_cons, List.map_nil] at he2
        have S1 := st_cell hg2 (o := 1) (v := .str s2) rfl rfl (by simp)
        have g3 : hget (h3.set b (some (.cells ([V.str s2, V.str p2].set 1 (.str s2)) none))) b = some (.cells [.str s2, .str s2] none) := by rw [hget_set (hget_lt hg2)]; rfl
        have S2 := st_cell g3 (o := 0) (v := .str p2) rfl rfl (by simp)
        rw [List.set_set] at S2
        simp at S1 S2
        simp
        refine vD_lin ?_
        simp [reL, vLs, vLg, vLq, dstO, nth_zero, nth_succ, nd, tell, t7, t1, t0, a1, a0, q0, q1, asV, w0, S1, S2]
        exact ⟨by simp [t0], by simp [t1], by simp [t2], rfl, by simp [t6], .inr ⟨rfl, by simp, he2⟩⟩
    · refine vD_lin ?_
      have w2 : IntKind.i64.wrap 2 = 2 := by decide
      simp [reL, vLs, vLg, vLq, dstO, nth_zero, nth_succ, nd, tell, t7, t1, t0, asV, t6, w2]
      exact ⟨by simp [t0], by simp [t1], by simp [t2], rfl, .inr ⟨rfl, by simp, he2⟩⟩
  · simp [t6, t2, he]

theorem len_spec : PCalls GX 42 [.int .u64 2] fun r => r = .ret (.int .i64 2) := K.pure_ok GX.ok GX.low CT.ok (n := 1000) (by kernel_rfl)
theorem sort41 {h : Hp} {b : Nat} {s p : List UInt8} {lim : V} (hg : hget h b = some (.cells [.str s, .str p] none)) : ACalls GX 41 [.sl b 0 2 2 true 1 false, .int .i64 0, .int .i64 2, lim] h fun r h' => r = .ret (.tup []) ∧ h' = h.set b (some (.cells ((two s p).map .str) none)) := by
  refine acall GX.ok ck41 rfl ?_
  simp only [F41]
  have w2 : IntKind.i64.wrap 2 = 2 := by decide
  simp only [vc_seq, vc_block]
  simp
  refine vc_loop _ _ _ (fun k st => st.t 0 = .sl b 0 2 2 true 1 false ∧ st.t 1 = .int .i64 0 ∧ st.t 2 = .int .i64 2 ∧ st.d = [] ∧ st.h = h) 1 ⟨by simp, by simp, by simp, rfl, rfl⟩ ?_
  rintro k ⟨t, h1, d⟩ ⟨t0, t1, t2, hd, he⟩
  simp only at t0 t1 t2 hd he
  subst hd; subst he
  simp [t0, t1, t2, w2]
  refine (sort56 hg).mono ?_
  rintro r h' ⟨rfl, rfl⟩
  simp
theorem sort27 {h : Hp} {b : Nat} {s p : List UInt8} (hg : hget h b = some (.cells [.str s, .str p] none)) : ACalls GX 27 [.sl b 0 2 2 true 1 false] h fun r h' => r = .ret (.tup []) ∧ h' = h.set b (some (.cells ((two s p).map .str) none)) := by
  refine acall GX.ok ck27 rfl ?_
  have w2 : cviV .u64 (.int .i64 2) = some (.int .u64 2) := by
    simp only [cviV, Option.some.injEq, V.int.injEq, true_and]; decide
  simp [F27, lenV, w2]
  refine (PCalls.at GX.low len_spec (fun a ha => by simp at ha; subst ha; exact .int _ _) _).mono ?_
  rintro r h' ⟨rfl, rfl⟩
  simp
  refine (sort41 hg).mono ?_
  rintro r h' ⟨rfl, rfl⟩
  simp

theorem nameB_ne (n : Nat) : (nameB n == []) = false := rfl
def dhOf (ks : List (List UInt8)) (p : List UInt8) : Option (List UInt8) := match what ks p 0 with
  | some k => match readB k with
    | some (kd, [a]) => if kd = 2 then some a else none
    | _ => none
  | none => none
def DhR (h : Hp) (τ m1 m2 : Nat) (al : V) (ks : List (List UInt8)) (s p : List UInt8) (r : Res) (h' : Hp) : Prop := match dhOf ks p with
  | some a => ∃ al', r = .ret (.tup [.str (nameB (putN ks (joinB 3 (two s a)) + 1)), .bool true]) ∧ Tab h' τ m1 m2 al' (putT ks (joinB 3 (two s a))) ∧ Rest h h' τ m1 m2 al ∧ (∀ c, al'.blk = some c → al.blk = some c ∨ h.length ≤ c)
  | none => r = .ret (.tup [.str [], .bool false]) ∧ h' = h

theorem two_len (s a : List UInt8) : (two s a).length = 2 := by unfold two; split <;> rfl
theorem two_mem {s a p : List UInt8} (h : p ∈ two s a) : p = s ∨ p = a := by
  unfold two at h; split at h <;> simp at h <;> (rcases h with h | h <;> simp [h])

theorem join_len3 {x y : List UInt8} (hx : x.length ≤ 4000) (hy : y.length ≤ 4000) : (joinB 3 [x, y]).length ≤ 30000 := by simp [joinB, part]; omega
theorem dh_spec {h : Hp} {τ m1 m2 : Nat} {al : V} {ks : List (List UInt8)} (T : Tab h τ m1 m2 al ks) {s p : List UInt8} (hs : s.length ≤ 4000) (hk : ks.length < 999999) : ACalls GX 15 [.ptr τ 0, .str s, .str p] h (DhR h τ m1 m2 al ks s p) := by
  refine acall GX.ok ck15 rfl ?_
  simp [F15]
  refine (parts_spec T p).mono ?_
  rintro r h' ⟨rfl, rfl⟩
  unfold DhR dhOf partsV
  cases hw : what ks p 0 with
  | none => simp
  | some k =>
    obtain ⟨j, _, hj, hkj⟩ := what_some _ _ _ _ hw
    obtain ⟨kd, ps, rfl, b1, b2, b3, b4⟩ := T.jn k (List.mem_of_getElem? hkj)
    have hr := readB_joinB b1 b2 b3
    by_cases hkd : kd = 2
    · subst hkd
      have h1 := b4.1 rfl
      match ps, h1 with
      | [a], _ =>
        have ha : a.length ≤ 4000 := b2 a (by simp)
        have e1 : iadV 1 (frz [a]) (.int .i64 0) = some (.fp [.str a] 0) := by simp [frz, iadV, V.cells]
        have e2 : ∀ h, rd h (.fp [.str a] 0) 1 = some [.str a] := fun h => rfl
        simp [hr, e1, e2, asV, fillV, setAll, V.cells, V.one]
        have hg : hget (h' ++ [some (.cells [.str s, .str a] none)]) h'.length = some (.cells [.str s, .str a] none) := hget_new _ _
        refine (sort27 hg).mono ?_
        rintro r h2 ⟨rfl, rfl⟩
        have hh : List.set (h' ++ [some (Blk.cells [V.str s, V.str a] none)]) h'.length (some (Blk.cells ((two s a).map V.str) none)) = h' ++ [some (Blk.cells ((two s a).map V.str) none)] := by
          rw [List.set_append_right _ _ (Nat.le_refl _)]; simp
        rw [hh]
        simp
        have T2 : Tab (h' ++ [some (.cells ((two s a).map .str) none)]) τ m1 m2 al ks := T.keep fun c hc => hget_old hc _
        have hl2 := two_len s a
        have hm : ∀ q ∈ two s a, q.length ≤ 4000 := fun q hq => by rcases two_mem hq with rfl | rfl <;> assumption
        have h3 : (joinB 3 (two s a)).length ≤ 30000 := by
          unfold two; split
          · exact join_len3 ha hs
          · exact join_len3 hs ha
        have hF : Fzns (h' ++ [some (.cells ((two s a).map .str) none)]) [.int .u8 (3 : UInt8).toNat, .sl h'.length 0 2 2 true 1 false] [.int .u8 (3 : UInt8).toNat, .lst false ((two s a).map .str)] := by
          refine ⟨.low _ (.int _ _), ?_, trivial⟩
          have hr2 : rd (h' ++ [some (.cells ((two s a).map .str) none)]) (.ptr h'.length 0) (2 * 1) = some ((two s a).map .str) := by
            simp [rd, hget_new, sub, hl2, List.take_of_length_le]
          have := Fzn.sl (h := h' ++ [some (.cells ((two s a).map .str) none)]) h'.length 0 2 2 1 true false _ hr2 (fun _ => rfl) (fun y hy => by obtain ⟨c, _, rfl⟩ := List.mem_map.1 hy; exact .str _)
          have e := chunk_str (two s a)
          rw [hl2] at e
          rwa [e] at this
        have hj := (show PCalls GX 43 [.int .u8 (3 : UInt8).toNat, .lst false ((two s a).map .str)] fun r => r = .ret (.tup [.str (joinR 3 (two s a)).1, .int .i64 (joinR 3 (two s a)).2]) from
          join_spec (h := []) (k := 3) (fz_lst false (two s a)) (by omega) (LowH.zero _)).frz GX.low (fun r hr => by subst hr; exact .tup _ (by simp; exact ⟨.str _, .int _ _⟩)) hF
        refine (put_spec0 T2 (kd := 3) (ps := two s a) hj (by omega) hm h3 ⟨(fun e => by cases e), (fun e => by cases e)⟩ hk).mono ?_
        rintro r h4 ⟨al', rfl, T4, R4, B4, _⟩
        have hne : nameB (putN ks (joinB 3 (two s a)) + 1) ≠ [] := by simp [nameB]
        simp [hne]
        refine ⟨al', T4, ⟨by have := R4.1; simp at this; omega, fun c hc c1 c2 c3 c4 => ?_⟩, fun c hc => ?_⟩
        · rw [R4.2 c (by simp; omega) c1 c2 c3 c4, hget_old hc]
        · rcases B4 c hc with hb | hb
          · exact .inl hb
          · right; simp at hb; omega
    · have hkd' : ¬ (kd.toNat : Int) = 2 := fun e => hkd (by
        have : kd.toNat = (2 : UInt8).toNat := by simp; omega
        exact UInt8.toNat.inj this)
      have hkb : ((kd.toNat : Int) != 2) = true := by simp; omega
      have hdn : (match readB (joinB kd ps) with
        | some (kd, [a]) => if kd = 2 then some a else none
        | _ => none) = (none : Option (List UInt8)) := by
        rw [hr]
        match ps with
        | [a] => simp [hkd]
        | [] => rfl
        | _ :: _ :: _ => rfl
      simp only [hdn]
      simp [hr, hkb]
end Go.Proofs.YtfinnljkcgglfaaGreatDoor
