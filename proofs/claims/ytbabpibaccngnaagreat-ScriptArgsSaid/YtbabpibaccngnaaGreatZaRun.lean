/- script.Run of steps that are none. -/
import Derived.Test.YtbabpibaccngnaaGreatZaBase
import Derived.Test.YtbabpibaccngnaaGreatZa1
import Derived.Test.YtbabpibaccngnaaGreatZa2
import Derived.KernelRfl
namespace Go.Proofs.YtbabpibaccngnaaGreat
open Go Go.Vs Go.RowKit
set_option maxRecDepth 100000
set_option linter.unusedSimpArgs false
set_option linter.unusedVariables false
attribute [local simp] unV extV wanted strBin vp1 vp2 np1

theorem wd1 : Wd 13 Za.H3 4 1 :=
  ⟨_, _, _, _, _, 12, _, _, [.ptr 11 0], [], _, by decide, by decide, rfl, rfl, rfl, fun i v hv => match i, v, hv with
    | 0, v, hv => by simp at hv; subst hv; exact ⟨11, _, _, _, _, _, _, _, _, _, _, rfl, by decide, rfl⟩
    | j + 1, v, hv => by simp at hv⟩
theorem wd2 : Wd 21 Za.H4 4 2 :=
  ⟨_, _, _, _, _, 20, _, _, [.ptr 11 0, .ptr 19 0], [], _, by decide, by decide, rfl, rfl, rfl, fun i v hv => match i, v, hv with
    | 0, v, hv => by simp at hv; subst hv; exact ⟨11, _, _, _, _, _, _, _, _, _, _, rfl, by decide, rfl⟩
    | 1, v, hv => by simp at hv; subst hv; exact ⟨19, _, _, _, _, _, _, _, _, _, _, rfl, by decide, rfl⟩
    | j + 2, v, hv => by simp at hv⟩
theorem wd3 : Wd 29 Za.H5 4 3 :=
  ⟨_, _, _, _, _, 28, _, _, [.ptr 11 0, .ptr 19 0, .ptr 27 0], [], _, by decide, by decide, rfl, rfl, rfl, fun i v hv => match i, v, hv with
    | 0, v, hv => by simp at hv; subst hv; exact ⟨11, _, _, _, _, _, _, _, _, _, _, rfl, by decide, rfl⟩
    | 1, v, hv => by simp at hv; subst hv; exact ⟨19, _, _, _, _, _, _, _, _, _, _, rfl, by decide, rfl⟩
    | 2, v, hv => by simp at hv; subst hv; exact ⟨27, _, _, _, _, _, _, _, _, _, _, rfl, by decide, rfl⟩
    | j + 3, v, hv => by simp at hv⟩
theorem wd4 : Wd 37 Za.H6 4 4 :=
  ⟨_, _, _, _, _, 36, _, _, [.ptr 11 0, .ptr 19 0, .ptr 27 0, .ptr 35 0], [], _, by decide, by decide, rfl, rfl, rfl, fun i v hv => match i, v, hv with
    | 0, v, hv => by simp at hv; subst hv; exact ⟨11, _, _, _, _, _, _, _, _, _, _, rfl, by decide, rfl⟩
    | 1, v, hv => by simp at hv; subst hv; exact ⟨19, _, _, _, _, _, _, _, _, _, _, rfl, by decide, rfl⟩
    | 2, v, hv => by simp at hv; subst hv; exact ⟨27, _, _, _, _, _, _, _, _, _, _, rfl, by decide, rfl⟩
    | 3, v, hv => by simp at hv; subst hv; exact ⟨35, _, _, _, _, _, _, _, _, _, _, rfl, by decide, rfl⟩
    | j + 4, v, hv => by simp at hv⟩
theorem wd5 : Wd 45 Za.H7 4 5 :=
  ⟨_, _, _, _, _, 44, _, _, [.ptr 11 0, .ptr 19 0, .ptr 27 0, .ptr 35 0, .ptr 43 0], [], _, by decide, by decide, rfl, rfl, rfl, fun i v hv => match i, v, hv with
    | 0, v, hv => by simp at hv; subst hv; exact ⟨11, _, _, _, _, _, _, _, _, _, _, rfl, by decide, rfl⟩
    | 1, v, hv => by simp at hv; subst hv; exact ⟨19, _, _, _, _, _, _, _, _, _, _, rfl, by decide, rfl⟩
    | 2, v, hv => by simp at hv; subst hv; exact ⟨27, _, _, _, _, _, _, _, _, _, _, rfl, by decide, rfl⟩
    | 3, v, hv => by simp at hv; subst hv; exact ⟨35, _, _, _, _, _, _, _, _, _, _, rfl, by decide, rfl⟩
    | 4, v, hv => by simp at hv; subst hv; exact ⟨43, _, _, _, _, _, _, _, _, _, _, rfl, by decide, rfl⟩
    | j + 5, v, hv => by simp at hv⟩
theorem wd6 : Wd 53 Za.H8 4 6 :=
  ⟨_, _, _, _, _, 52, _, _, [.ptr 11 0, .ptr 19 0, .ptr 27 0, .ptr 35 0, .ptr 43 0, .ptr 51 0], [], _, by decide, by decide, rfl, rfl, rfl, fun i v hv => match i, v, hv with
    | 0, v, hv => by simp at hv; subst hv; exact ⟨11, _, _, _, _, _, _, _, _, _, _, rfl, by decide, rfl⟩
    | 1, v, hv => by simp at hv; subst hv; exact ⟨19, _, _, _, _, _, _, _, _, _, _, rfl, by decide, rfl⟩
    | 2, v, hv => by simp at hv; subst hv; exact ⟨27, _, _, _, _, _, _, _, _, _, _, rfl, by decide, rfl⟩
    | 3, v, hv => by simp at hv; subst hv; exact ⟨35, _, _, _, _, _, _, _, _, _, _, rfl, by decide, rfl⟩
    | 4, v, hv => by simp at hv; subst hv; exact ⟨43, _, _, _, _, _, _, _, _, _, _, rfl, by decide, rfl⟩
    | 5, v, hv => by simp at hv; subst hv; exact ⟨51, _, _, _, _, _, _, _, _, _, _, rfl, by decide, rfl⟩
    | j + 6, v, hv => by simp at hv⟩

def pT : V := .ifc 139 (.agg [.ptr 2 0])
def seedV : V := .str Za.c0
theorem new_ok : ∀ (n : Nat), 1 ≤ n → n ≤ 6 → ∃ M, ACalls CX 69 [pT, .int .i64 n, seedV] Za.H2 (fun r h' => r = .ret (.ptr 4 0) ∧ h' = M) ∧ Wd M.length M 4 n ∧ hget M 3 = some (.cells [.nsl, .nsl, .nsl] none) ∧ 4 ≤ M.length
  | 1, _, _ => ⟨Za.H3, Za.s2_ok, wd1, rfl, by decide⟩
  | 2, _, _ => ⟨Za.H4, Za.s3_ok, wd2, rfl, by decide⟩
  | 3, _, _ => ⟨Za.H5, Za.s4_ok, wd3, rfl, by decide⟩
  | 4, _, _ => ⟨Za.H6, Za.s5_ok, wd4, rfl, by decide⟩
  | 5, _, _ => ⟨Za.H7, Za.s6_ok, wd5, rfl, by decide⟩
  | 6, _, _ => ⟨Za.H8, Za.s7_ok, wd6, rfl, by decide⟩
  | 0, h, _ => by omega
  | n + 7, _, h => by omega

theorem new_bad {n : Int} (hn : n < 1 ∨ 6 < n) (h : Hp) : ACalls CX 69 [pT, .int .i64 n, seedV] h fun r h' => r = .ret .nptr ∧ h' = h := by
  refine acall CX.ok ck69 rfl ?_
  have vi : veq .ifc pT .nifc = some false := rfl
  by_cases h1 : n < 1
  · have h1' : ¬ 1 ≤ n := by omega
    simp [F69, vi, h1, h1']
  · have h1' : 1 ≤ n := by omega
    have h2 : 6 < n := by omega
    have h2' : ¬ n ≤ 6 := by omega
    simp [F69, vi, h1, h1', h2, h2']

def ZL (m : Nat) : V := .lst true (chunk 5 true m (List.replicate m zstep).flatten)
theorem zl_len (h : Hp) (m : Nat) : lenV h .slc (ZL m) = some (.int .i64 m) := by simp [lenV, ZL, chunk_length]
theorem zl_take : ∀ (m i : Nat), i < m → ((List.replicate m zstep).flatten.drop (i * 5)).take 5 = zstep
  | 0, i, h => by omega
  | m + 1, 0, _ => by simp [List.replicate_succ, zstep]
  | m + 1, i + 1, h => by
    have := zl_take m i (by omega)
    rw [List.replicate_succ, List.flatten_cons, show (i + 1) * 5 = zstep.length + i * 5 by simp [zstep]; omega, ← List.drop_drop, List.drop_left]
    exact this
theorem zl_at {m i : Nat} (hi : i < m) : iadV 5 (ZL m) (.int .i64 i) = some (.fp zstep 0) := by
  have hg := chunk_get 5 m i (List.replicate m zstep).flatten hi
  rw [zl_take m i hi] at hg
  simp only [iadV, ZL, chunk_length, Int.toNat_natCast, hg]
  rw [if_pos ⟨by omega, by omega, rfl⟩]
  rfl

theorem resC {a b : Nat} {t : Nat → V} {h : Hp} {β : Nat} {cs : List V} (ha : t a = .ptr β 0) (hr : rd h (.ptr β 0) 3 = some cs) : resV [.c a 3 true, .t b] t h = some (.tup [.agg cs, t b]) := by
  simp [resV, getAll, RV.get, ha, hr, asV]
theorem run_bad {n : Int} (hn : n < 1 ∨ 6 < n) (m : Nat) : ACalls CX 30 [pT, .int .i64 n, seedV, ZL m] Za.H1 fun r h' => r = .ret (.tup [.agg [.nsl, .nsl, .nsl], .int .i64 2]) := by
  refine acall CX.ok ck30 rfl ?_
  have vi : veq .ifc pT .nifc = some false := rfl
  simp [F30, vi]
  refine (new_bad hn _).mono ?_
  rintro r h' ⟨rfl, rfl⟩
  have hst : stV (Za.H1 ++ [some (.cells [.nsl, .nsl, .nsl] none)]) 3 (.ptr Za.H1.length 0) (.agg [.nsl, .nsl, .nsl]) = some (.skip (Za.H1 ++ [some (.cells [.nsl, .nsl, .nsl] none)])) := by
    simp [stV, V.cells, wr, hget_new, V.one, setAll]
  simp [fillV, hst]
  rw [resC (β := Za.H1.length) (cs := [.nsl, .nsl, .nsl]) (by simp) (by simp [rd, hget_new, sub])]
  simp

theorem run_big {n : Nat} (h1 : 1 ≤ n) (h6 : n ≤ 6) {m : Nat} (hm : 500 < m) (hm2 : m < 1000) : ACalls CX 30 [pT, .int .i64 n, seedV, ZL m] Za.H1 fun r h' => r = .ret (.tup [.agg [.nsl, .nsl, .nsl], .int .i64 3]) := by
  obtain ⟨M, hM, hW, hg, hl⟩ := new_ok n h1 h6
  refine acall CX.ok ck30 rfl ?_
  have vi : veq .ifc pT .nifc = some false := rfl
  simp [F30, vi]
  refine hM.mono ?_
  rintro r h' ⟨rfl, rfl⟩
  have hm' : (500 : Int) < m := by omega
  have hm'' : ¬ (m : Int) ≤ 500 := by omega
  have hst : stV h' 3 (.ptr Za.H1.length 0) (.agg [.nsl, .nsl, .nsl]) = some (.skip (h'.set 3 (some (.cells [.nsl, .nsl, .nsl] none)))) := by
    simp [stV, V.cells, wr, V.one, setAll, show Za.H1.length = 3 from rfl, hg]
  simp [fillV, hst, zl_len, hm', hm'']
  rw [resC (β := 3) (cs := [.nsl, .nsl, .nsl]) (by simp [show Za.H1.length = 3 from rfl]) (by simp [rd, hget_set (show 3 < h'.length by omega), sub])]
  simp
theorem own_keep {h h' : Hp} {k es : Nat} {ag : Bool} {v : V} {n : Nat} {ys : List V} (H : Vs.Own h k es ag v n ys) (hk : ∀ b, v.blk = some b → hget h' b = hget h b) : Vs.Own h' k es ag v n ys := by
  refine ⟨H.1, ?_⟩
  rcases H.2 with hh | hh | ⟨b, cap, ex, rest, ty, c1, c2, c3, c4⟩
  · exact .inl hh
  · exact .inr (.inl hh)
  · exact .inr (.inr ⟨b, cap, ex, rest, ty, c1, c2, by rw [hk b (by rw [c1]; rfl)]; exact c3, c4⟩)
theorem own_lt {h : Hp} {k es : Nat} {ag : Bool} {v : V} {n : Nat} {ys : List V} (H : Vs.Own h k es ag v n ys) {b : Nat} (hb : v.blk = some b) : b < h.length := by
  rcases H.2 with ⟨rfl, _⟩ | ⟨rfl, _⟩ | ⟨b', cap, ex, rest, ty, rfl, c2, c3, c4⟩
  · cases hb
  · cases hb
  · simp only [V.blk, Option.some.injEq] at hb
    subst hb; exact hget_lt c3
theorem own_ge {h : Hp} {k es : Nat} {ag : Bool} {v : V} {n : Nat} {ys : List V} (H : Vs.Own h k es ag v n ys) {b : Nat} (hb : v.blk = some b) : k ≤ b := by
  rcases H.2 with ⟨rfl, _⟩ | ⟨rfl, _⟩ | ⟨b', cap, ex, rest, ty, rfl, c2, c3, c4⟩
  · cases hb
  · cases hb
  · simp only [V.blk, Option.some.injEq] at hb
    subst hb; exact c2
theorem frm_get {k : Nat} {h h' : Hp} (H : Frm k h h') {c : Nat} (hc : c < k) : hget h' c = hget h c := by
  have e : ∀ l : Hp, hget (l.take k) c = hget l c := fun l => by unfold hget; rw [List.getElem?_take_of_lt hc]
  rw [← e h', H.2, e h]

/-- The blocks of a run: a world's, below; a result's three rows. -/
structure RB (M h : Hp) (c : List V) (tx er tl : V) (i i2 j : Nat) : Prop where
  len : M.length < h.length
  low : ∀ c, c < M.length → hget h c = hget M c
  cell : hget h M.length = some (.cells c none)
  ox : Vs.Own h (M.length + 1) 1 false tx i (List.replicate i (.str []))
  oe : Vs.Own h (M.length + 1) 1 false er i2 (List.replicate i2 (.int .i64 2))
  ol : Vs.Own h (M.length + 1) 1 false tl j (List.replicate j .nsl)
  d1 : ∀ b, tx.blk = some b → er.blk ≠ some b
  d2 : ∀ b, tx.blk = some b → tl.blk ≠ some b
  d3 : ∀ b, er.blk = some b → tl.blk ≠ some b
theorem RB.frm {M h h' : Hp} {c : List V} {tx er tl : V} {i i2 j : Nat} (H : RB M h c tx er tl i i2 j) (hf : Frm h.length h h') : RB M h' c tx er tl i i2 j := by
  have hl := hf.1
  refine ⟨Nat.lt_of_lt_of_le H.len hl, fun b hb => ?_, ?_, own_keep H.ox fun b hb => frm_get hf (own_lt H.ox hb), own_keep H.oe fun b hb => frm_get hf (own_lt H.oe hb), own_keep H.ol fun b hb => frm_get hf (own_lt H.ol hb), H.d1, H.d2, H.d3⟩
  · rw [frm_get hf (by have := H.len; omega)]; exact H.low b hb
  · rw [frm_get hf H.len]; exact H.cell
theorem RB.set {M h : Hp} {c : List V} {tx er tl : V} {i i2 j : Nat} (H : RB M h c tx er tl i i2 j) (c' : List V) : RB M (h.set M.length (some (.cells c' none))) c' tx er tl i i2 j := by
  refine ⟨by simpa using H.len, fun b hb => ?_, hget_set H.len _, own_keep H.ox fun b hb => ?_, own_keep H.oe fun b hb => ?_, own_keep H.ol fun b hb => ?_, H.d1, H.d2, H.d3⟩
  · rw [hget_set_ne (by omega)]; exact H.low b hb
  · have := own_ge H.ox hb; exact hget_set_ne (by omega) _
  · have := own_ge H.oe hb; exact hget_set_ne (by omega) _
  · have := own_ge H.ol hb; exact hget_set_ne (by omega) _
theorem RB.appx {M h : Hp} {c : List V} {tx er tl : V} {i i2 j : Nat} (H : RB M h c tx er tl i i2 j) (hr : i < 1000) : ∃ tx' h', appR h 1 16 false none tx (.lst true [.str []]) = some (.val tx' h') ∧ RB M h' c tx' er tl (i + 1) i2 j := by
  have hne : tx.blk ≠ some M.length := fun e => by have := own_ge H.ox e; omega
  obtain ⟨tx', h', a1, a2, a3, a4, a5, a6⟩ := Own.app (h := h) (k := M.length + 1) (es := 1) (bt := 16) (ag := false) (ty := none) (v := tx) (a := .lst true [.str []]) (m := 1) (zs := [.str []]) H.len H.ox (by simp [src, flat, V.cells]) rfl (by unfold room; omega)
  refine ⟨tx', h', a1, Nat.lt_of_lt_of_le H.len a6, fun b hb => ?_, ?_, by rw [List.replicate_succ']; exact a2, own_keep H.oe fun b hb => a4 b (own_lt H.oe hb) fun e => H.d1 b e hb, own_keep H.ol fun b hb => a4 b (own_lt H.ol hb) fun e => H.d2 b e hb, fun b e1 e2 => by
    rcases a5 with a5 | a5
    · rw [a5] at e1; exact H.d1 b e1 e2
    · rw [a5] at e1; cases e1; exact Nat.lt_irrefl _ (own_lt H.oe e2), fun b e1 e2 => by
    rcases a5 with a5 | a5
    · rw [a5] at e1; exact H.d2 b e1 e2
    · rw [a5] at e1; cases e1; exact Nat.lt_irrefl _ (own_lt H.ol e2), H.d3⟩
  · rw [a4 b (by have := H.len; omega) (fun e => by have := own_ge H.ox e; omega)]; exact H.low b hb
  · rw [a4 _ H.len hne]; exact H.cell
theorem RB.appe {M h : Hp} {c : List V} {tx er tl : V} {i i2 j : Nat} (H : RB M h c tx er tl i i2 j) (hr : i2 < 1000) : ∃ er' h', appR h 1 8 false none er (.lst true [.int .i64 2]) = some (.val er' h') ∧ RB M h' c tx er' tl i (i2 + 1) j := by
  have hne : er.blk ≠ some M.length := fun e => by have := own_ge H.oe e; omega
  obtain ⟨er', h', a1, a2, a3, a4, a5, a6⟩ := Own.app (h := h) (k := M.length + 1) (es := 1) (bt := 8) (ag := false) (ty := none) (v := er) (a := .lst true [.int .i64 2]) (m := 1) (zs := [.int .i64 2]) H.len H.oe (by simp [src, flat, V.cells]) rfl (by unfold room; omega)
  refine ⟨er', h', a1, Nat.lt_of_lt_of_le H.len a6, fun b hb => ?_, ?_, own_keep H.ox fun b hb => a4 b (own_lt H.ox hb) fun e => H.d1 b hb e, by rw [List.replicate_succ']; exact a2, own_keep H.ol fun b hb => a4 b (own_lt H.ol hb) fun e => H.d3 b e hb, fun b e1 e2 => by
    rcases a5 with a5 | a5
    · rw [a5] at e2; exact H.d1 b e1 e2
    · rw [a5] at e2; cases e2; exact Nat.lt_irrefl _ (own_lt H.ox e1), H.d2, fun b e1 e2 => by
    rcases a5 with a5 | a5
    · rw [a5] at e1; exact H.d3 b e1 e2
    · rw [a5] at e1; cases e1; exact Nat.lt_irrefl _ (own_lt H.ol e2)⟩
  · rw [a4 b (by have := H.len; omega) (fun e => by have := own_ge H.oe e; omega)]; exact H.low b hb
  · rw [a4 _ H.len hne]; exact H.cell
theorem RB.appl {M h : Hp} {c : List V} {tx er tl : V} {i i2 j : Nat} (H : RB M h c tx er tl i i2 j) (hr : j < 1000) : ∃ tl' h', appR h 1 24 false none tl (.lst true [.nsl]) = some (.val tl' h') ∧ RB M h' c tx er tl' i i2 (j + 1) := by
  have hne : tl.blk ≠ some M.length := fun e => by have := own_ge H.ol e; omega
  obtain ⟨tl', h', a1, a2, a3, a4, a5, a6⟩ := Own.app (h := h) (k := M.length + 1) (es := 1) (bt := 24) (ag := false) (ty := none) (v := tl) (a := .lst true [.nsl]) (m := 1) (zs := [.nsl]) H.len H.ol (by simp [src, flat, V.cells]) rfl (by unfold room; omega)
  refine ⟨tl', h', a1, Nat.lt_of_lt_of_le H.len a6, fun b hb => ?_, ?_, own_keep H.ox fun b hb => a4 b (own_lt H.ox hb) fun e => H.d2 b hb e, own_keep H.oe fun b hb => a4 b (own_lt H.oe hb) fun e => H.d3 b hb e, by rw [List.replicate_succ']; exact a2, H.d1, fun b e1 e2 => by
    rcases a5 with a5 | a5
    · rw [a5] at e2; exact H.d2 b e1 e2
    · rw [a5] at e2; cases e2; exact Nat.lt_irrefl _ (own_lt H.ox e1), fun b e1 e2 => by
    rcases a5 with a5 | a5
    · rw [a5] at e2; exact H.d3 b e1 e2
    · rw [a5] at e2; cases e2; exact Nat.lt_irrefl _ (own_lt H.oe e1)⟩
  · rw [a4 b (by have := H.len; omega) (fun e => by have := own_ge H.ol e; omega)]; exact H.low b hb
  · rw [a4 _ H.len hne]; exact H.cell
end Go.Proofs.YtbabpibaccngnaaGreat
