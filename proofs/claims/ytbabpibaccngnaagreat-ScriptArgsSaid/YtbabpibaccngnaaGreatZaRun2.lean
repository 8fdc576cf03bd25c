/- script.Run of steps that are none (2). -/
import Derived.Test.YtbabpibaccngnaaGreatZaRun
namespace Go.Proofs.YtbabpibaccngnaaGreat
open Go Go.Vs Go.RowKit
set_option maxRecDepth 100000
set_option linter.unusedSimpArgs false
set_option linter.unusedVariables false
attribute [local simp] unV extV wanted strBin vp1 vp2 np1

def r1Inv (M : Hp) (n m k : Nat) (st : St) : Prop := ∃ (i : Nat) (tx er : V), k + i = m ∧ st.t 35 = .int .i64 i ∧ st.t 34 = .int .i64 m ∧ st.t 33 = ZL m ∧ st.t 10 = .ptr 4 0 ∧ st.t 11 = .ptr M.length 0 ∧ st.t 1 = .int .i64 n ∧ st.t 8 = .ptr 3 0 ∧ st.d = [] ∧ RB M st.h [tx, er, .nsl] tx er .nsl i i 0
def r2Inv (M : Hp) (n m : Nat) (tx er : V) (k : Nat) (st : St) : Prop := ∃ (i : Nat) (tl : V), k + i = n ∧ st.t 59 = .int .i64 i ∧ st.t 58 = .int .i64 n ∧ st.t 10 = .ptr 4 0 ∧ st.t 11 = .ptr M.length 0 ∧ st.t 8 = .ptr 3 0 ∧ st.d = [] ∧ RB M st.h [tx, er, tl] tx er tl m m i

theorem one_own {h : Hp} {k es : Nat} {ag : Bool} {v : V} {n : Nat} {ys : List V} (H : Vs.Own h k es ag v n ys) : v.one = true ∧ v.cells = [v] := by
  rcases H.2 with ⟨rfl, _⟩ | ⟨rfl, _⟩ | ⟨b', cap, ex, rest, ty, rfl, c2, c3, c4⟩ <;> exact ⟨rfl, rfl⟩

theorem st_c {h : Hp} {β : Nat} {cs : List V} (hg : hget h β = some (.cells cs none)) {o : Nat} {v : V} (h1 : v.one = true) (h2 : v.cells = [v]) (ho : o < cs.length) : stV h 1 (.ptr β o) v = some (.skip (h.set β (some (.cells (cs.set o v) none)))) := by
  simp only [stV, h2, wr, hg]
  rw [if_pos ⟨rfl, by simp [h1]⟩, if_pos (by simpa using Nat.succ_le_of_lt ho)]
  simp [setAll]
theorem rd_c {h : Hp} {β : Nat} {cs : List V} {ty : Option TypeId} (hg : hget h β = some (.cells cs ty)) (o : Nat) : rd h (.ptr β o) 1 = sub cs o 1 := by
  simp only [rd, hg]

set_option maxHeartbeats 2000000 in
theorem run_ok {n : Nat} (h1 : 1 ≤ n) (h6 : n ≤ 6) {m : Nat} (hm : m ≤ 500) : ACalls CX 30 [pT, .int .i64 n, seedV, ZL m] Za.H1 fun r h' => ∃ tx er tl, r = .ret (.tup [.agg [tx, er, tl], .int .i64 0]) ∧ Vs.Own h' 0 1 false tx m (List.replicate m (.str [])) ∧ Vs.Own h' 0 1 false er m (List.replicate m (.int .i64 2)) ∧ Vs.Own h' 0 1 false tl n (List.replicate n .nsl) := by
  obtain ⟨M, hM, hW, hg, hl⟩ := new_ok n h1 h6
  refine acall CX.ok ck30 rfl ?_
  have vi : veq .ifc pT .nifc = some false := rfl
  simp [F30, vi]
  refine hM.mono ?_
  rintro r h' ⟨rfl, rfl⟩
  have hm' : ¬ (500 : Int) < m := by omega
  have hm'' : (m : Int) ≤ 500 := by omega
  have h3l : Za.H1.length = 3 := rfl
  simp [zl_len, hm', hm'', h3l]
  generalize h' = M at *
  refine vc_loop _ _ _ (r1Inv M n m) m ⟨0, .nsl, .nsl, by simp, by simp, by simp, by simp, by simp, by simp, by simp, by simp, rfl, ?_⟩ ?_
  · refine ⟨by simp, fun c hc => hget_old hc _, hget_new _ _, ⟨rfl, .inl ⟨rfl, rfl⟩⟩, ⟨rfl, .inl ⟨rfl, rfl⟩⟩, ⟨rfl, .inl ⟨rfl, rfl⟩⟩, (fun b e => by cases e), (fun b e => by cases e), (fun b e => by cases e)⟩
  rintro k ⟨t, h, d⟩ ⟨i, tx, er, hk, t35, t34, t33, t10, t11, tn1, t8, hd, hB⟩
  simp only at t35 t34 t33 t10 t11 tn1 t8 hd hB
  subst hd
  by_cases hi : i < m
  · have hii : (i : Int) < m := by omega
    have hii' : ¬ (m : Int) ≤ i := by omega
    have r0 : ∀ h, rd h (.fp zstep 0) 5 = some zstep := fun _ => rfl
    have s0 : stV (h ++ [some (.cells [.int .i64 0, .int .u8 0, .int .u8 0, .int .u64 0, .str []] none)]) 5 (.ptr h.length 0) (.agg zstep) = some (.skip (h ++ [some (.cells zstep none)])) := by
      simp [stV, V.cells, wr, hget_new, V.one, setAll, zstep]
    have r1 : rd (h ++ [some (.cells zstep none)]) (.ptr h.length 0) 5 = some zstep := by simp [rd, hget_new, sub, zstep]
    have B1 : RB M (h ++ [some (.cells zstep none)]) [tx, er, .nsl] tx er .nsl i i 0 := hB.frm (Frm.append (Nat.le_refl _) _)
    simp [t35, t34, t33, hii, hii', zl_at hi, r0, asV, s0, t10, r1]
    have hlen := hB.len
    refine (do_spec (K := M.length) (n := n) (hW.keep fun c hc => B1.low c hc) (by simp; omega) (by omega) h6).mono ?_
    rintro r h2 ⟨rfl, hf⟩
    have B2 := B1.frm hf
    clear B1 r1 s0
    obtain ⟨tx', h3, a1, B3⟩ := B2.appx (by omega)
    obtain ⟨er', h4, a2, B4⟩ := B3.appe (by omega)
    have o1 := one_own B4.ox
    have o2 := one_own B4.oe
    have p1 := one_own B2.ox
    have p2 := one_own B2.oe
    have q0 := rd_c B2.cell 0
    have q1 := rd_c B2.cell 1
    have q2 := rd_c B3.cell 1
    simp [sub] at q0 q1 q2
    simp
    refine vD_lin ?_
    simp [reL, vLs, vLg, vLq, dstO, nth_zero, nth_succ, nd, tell, fadV, asV, t11, q0, q1, q2, fillV, setAll, V.cells, V.one, chunk, a1, a2]
    have S1 := st_c B4.cell (o := 0) o1.1 o1.2 (by simp)
    have B5 := B4.set [tx', er, .nsl]
    have S2 := st_c B5.cell (o := 1) o2.1 o2.2 (by simp)
    have B6 := B5.set [tx', er', .nsl]
    simp at S1 S2
    have hw : IntKind.i64.wrap ((i : Int) + 1) = (i : Int) + 1 := wrap64 (by omega) (by omega)
    simp [S1, S2, t11, t35, hw]
    exact ⟨k - 1, by omega, i + 1, tx', er', by omega, by simp, by simp [t34], by simp [t33], by simp [t10], by simp [t11], by simp [tn1], by simp [t8], rfl, by simpa using B6⟩
  · have him : i = m := by omega
    subst him
    have hii : ¬ (i : Int) < i := by omega
    simp [t35, t34, hii, tn1]
    refine vc_loop _ _ _ (r2Inv M n i tx er) n ⟨0, .nsl, by simp, by simp, by simp, by simp [t10], by simp [t11], by simp [t8], rfl, hB⟩ ?_
    clear hB t35 t34 t33 t10 t11 tn1 t8
    rintro k ⟨t, h, d⟩ ⟨j, tl, hk, t59, t58, t10, t11, t8, hd, hB⟩
    simp only at t59 t58 t10 t11 t8 hd hB
    subst hd
    by_cases hj : j < n
    · have hjj : (j : Int) < n := by omega
      have hjj' : ¬ (n : Int) ≤ j := by omega
      have q0 := rd_c hB.cell 2
      simp [sub] at q0
      have hcv : cviV .u8 (.int .i64 j) = some (.int .u8 j) := by
        simp only [cviV, Option.some.injEq, V.int.injEq, true_and]
        rw [wrapu8, UInt8.toNat_ofNat', Nat.mod_eq_of_lt (by omega)]
      simp [t59, t58, hjj, hjj']
      refine vD_lin ?_
      simp [reL, vLs, vLg, vLq, dstO, nth_zero, nth_succ, nd, tell, fadV, asV, t11, t10, q0, hcv]
      refine (told_spec (hW.keep fun c hc => hB.low c hc) hj h6).mono ?_
      rintro r h' ⟨rfl, rfl⟩
      obtain ⟨tl', h3, a1, B3⟩ := hB.appl (by omega)
      have o1 := one_own B3.ol
      simp [reL, vLs, vLg, vLq, dstO, nth_zero, nth_succ, nd, tell, fadV, asV, t11, t10, q0, hcv, fillV, setAll, V.cells, V.one, chunk, a1]
      have S1 := st_c B3.cell (o := 2) o1.1 o1.2 (by simp)
      have B5 := B3.set [tx, er, tl']
      simp at S1
      have hw : IntKind.i64.wrap ((j : Int) + 1) = (j : Int) + 1 := wrap64 (by omega) (by omega)
      simp [S1, t11, t59, hw]
      exact ⟨k - 1, by omega, j + 1, tl', by omega, by simp, by simp [t58], by simp [t10], by simp [t11], by simp [t8], rfl, by simpa using B5⟩
    · have hjn : j = n := by omega
      subst hjn
      have hjj : ¬ (j : Int) < j := by omega
      have r3 : rd h (.ptr M.length 0) 3 = some [tx, er, tl] := by simp [rd, hB.cell, sub]
      have o1 := one_own hB.ox
      have o2 := one_own hB.oe
      have o3 := one_own hB.ol
      have hg3 : hget h 3 = some (.cells [.nsl, .nsl, .nsl] none) := by rw [hB.low 3 (by omega)]; exact hg
      have h3 : 3 < h.length := by have := hB.len; omega
      have S1 : stV h 3 (.ptr 3 0) (.agg [tx, er, tl]) = some (.skip (h.set 3 (some (.cells [tx, er, tl] none)))) := by
        simp [stV, V.cells, wr, hg3, setAll, o1.1, o2.1, o3.1]
      simp [t59, t58, hjj, t11, r3, asV, t8, S1]
      rw [resC (β := 3) (cs := [tx, er, tl]) (by simp [t8]) (by simp [rd, hget_set h3, sub])]
      simp
      have kp : ∀ {v : V} {n : Nat} {ys : List V}, Vs.Own h (M.length + 1) 1 false v n ys → Vs.Own (h.set 3 (some (.cells [tx, er, tl] none))) 0 1 false v n ys := fun {v n ys} H => by
        have := own_keep (h' := h.set 3 (some (.cells [tx, er, tl] none))) H fun b hb => hget_set_ne (by have := own_ge H hb; omega) _
        refine ⟨this.1, ?_⟩
        rcases this.2 with hh | hh | ⟨b, cap, ex, rest, ty, c1, c2, c3, c4⟩
        · exact .inl hh
        · exact .inr (.inl hh)
        · exact .inr (.inr ⟨b, cap, ex, rest, ty, c1, Nat.zero_le _, c3, c4⟩)
      exact ⟨tx, er, tl, ⟨rfl, rfl, rfl⟩, kp hB.ox, kp hB.oe, kp hB.ol⟩
end Go.Proofs.YtbabpibaccngnaaGreat
