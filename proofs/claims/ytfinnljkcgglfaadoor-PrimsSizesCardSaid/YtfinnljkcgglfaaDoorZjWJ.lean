/- sha's Write: one answer. -/
import Derived.Test.YtfinnljkcgglfaaDoorZjTJ
set_option linter.unusedSimpArgs false
set_option linter.unusedVariables false
namespace Go.Proofs.YtfinnljkcgglfaaDoor
open Go Go.Vs Go.RowKit
set_option maxRecDepth 100000
set_option linter.unusedSimpArgs false
set_option linter.unusedVariables false
attribute [local simp] unV extV wanted strBin vpt vpn vmp nilV_ptr vic vsn

def S8 (l : List V) : List V := [.int .u32 (intAt l 0), .int .u32 (intAt l 1), .int .u32 (intAt l 2), .int .u32 (intAt l 3), .int .u32 (intAt l 4), .int .u32 (intAt l 5), .int .u32 (intAt l 6), .int .u32 (intAt l 7)]
def N64 (l : List V) : List V := [.int .u8 (intAt l 0), .int .u8 (intAt l 1), .int .u8 (intAt l 2), .int .u8 (intAt l 3), .int .u8 (intAt l 4), .int .u8 (intAt l 5), .int .u8 (intAt l 6), .int .u8 (intAt l 7), .int .u8 (intAt l 8), .int .u8 (intAt l 9), .int .u8 (intAt l 10), .int .u8 (intAt l 11), .int .u8 (intAt l 12), .int .u8 (intAt l 13), .int .u8 (intAt l 14), .int .u8 (intAt l 15), .int .u8 (intAt l 16), .int .u8 (intAt l 17), .int .u8 (intAt l 18), .int .u8 (intAt l 19), .int .u8 (intAt l 20), .int .u8 (intAt l 21), .int .u8 (intAt l 22), .int .u8 (intAt l 23), .int .u8 (intAt l 24), .int .u8 (intAt l 25), .int .u8 (intAt l 26), .int .u8 (intAt l 27), .int .u8 (intAt l 28), .int .u8 (intAt l 29), .int .u8 (intAt l 30), .int .u8 (intAt l 31), .int .u8 (intAt l 32), .int .u8 (intAt l 33), .int .u8 (intAt l 34), .int .u8 (intAt l 35), .int .u8 (intAt l 36), .int .u8 (intAt l 37), .int .u8 (intAt l 38), .int .u8 (intAt l 39), .int .u8 (intAt l 40), .int .u8 (intAt l 41), .int .u8 (intAt l 42), .int .u8 (intAt l 43), .int .u8 (intAt l 44), .int .u8 (intAt l 45), .int .u8 (intAt l 46), .int .u8 (intAt l 47), .int .u8 (intAt l 48), .int .u8 (intAt l 49), .int .u8 (intAt l 50), .int .u8 (intAt l 51), .int .u8 (intAt l 52), .int .u8 (intAt l 53), .int .u8 (intAt l 54), .int .u8 (intAt l 55), .int .u8 (intAt l 56), .int .u8 (intAt l 57), .int .u8 (intAt l 58), .int .u8 (intAt l 59), .int .u8 (intAt l 60), .int .u8 (intAt l 61), .int .u8 (intAt l 62), .int .u8 (intAt l 63)]
theorem mix_ex (s b : List V) : ∃ r, okA .u32 8 r = true ∧ PCalls DX 25 [.agg (S8 s), .lst false (N64 b)] fun c => c = r := ex_of DX.ok DX.low CTT.ok (n := 3000) (by kernel_rfl)
noncomputable def mixF (s b : List V) : List V := aggOf (Classical.choose (mix_ex s b))
theorem mix_spec {s b : List V} (hs : isK .u32 8 s = true) (hb : isK .u8 64 b = true) : isK .u32 8 (mixF s b) = true ∧ PCalls DX 25 [.agg s, .lst false b] fun c => c = .ret (.agg (mixF s b)) :=
  pc_of2 (mix_ex s b) (by rw [show S8 s = s from cellsK_eq (k := .u32) (n := 8) hs, show N64 b = b from cellsK_eq (k := .u8) (n := 64) hb])

/-! ### a digest's cells -/
def DC (s : Nat → Int) (rv : V) (n : Int) : List V := CK .u32 8 s ++ [rv, .int .u64 n]
theorem DC_len (s : Nat → Int) (rv : V) (n : Int) : (DC s rv n).length = 10 := by simp [DC, CK_len]
theorem DC_get {s : Nat → Int} {rv : V} {n : Int} {i : Nat} (h : i < 8) : (DC s rv n)[i]? = some (.int .u32 (s i)) := by
  unfold DC; rw [List.getElem?_append_left (by rw [CK_len]; exact h), CK_get h]
theorem DC_8 (s : Nat → Int) (rv : V) (n : Int) : (DC s rv n)[8]? = some rv := rfl
theorem DC_9 (s : Nat → Int) (rv : V) (n : Int) : (DC s rv n)[9]? = some (.int .u64 n) := rfl
theorem sub_1 {l : List V} {i : Nat} {v : V} (h : l[i]? = some v) : sub l i 1 = some [v] := by
  have hi : i < l.length := (List.getElem?_eq_some_iff.1 h).1
  unfold sub
  rw [if_pos (by omega)]
  congr 1
  refine List.ext_getElem? fun j => ?_
  rw [List.getElem?_take, List.getElem?_drop]
  match j with
  | 0 => simp [h]
  | j + 1 => simp
theorem DC_set {s : Nat → Int} {rv : V} {n : Int} {i : Nat} {x : Int} (h : i < 8) : (DC s rv n).set i (.int .u32 x) = DC (upd1 s i x) rv n := by
  unfold DC; rw [List.set_append_left _ _ (by rw [CK_len]; exact h), CK_set]
theorem DC_set8 (s : Nat → Int) (rv rv' : V) (n : Int) : (DC s rv n).set 8 rv' = DC s rv' n := rfl
theorem DC_set9 (s : Nat → Int) (rv : V) (n n' : Int) : (DC s rv n).set 9 (.int .u64 n') = DC s rv n' := rfl
theorem DC_sub8 (s : Nat → Int) (rv : V) (n : Int) : sub (DC s rv n) 0 8 = some (CK .u32 8 s) := rfl
theorem DC_one {s : Nat → Int} {rv : V} {n : Int} (h : rv.one = true) : ∀ c ∈ DC s rv n, c.one = true := fun c hc => by
  unfold DC at hc
  rcases List.mem_append.1 hc with hc | hc
  · exact CK_one c hc
  · simp at hc; rcases hc with rfl | rfl
    · exact h
    · rfl
theorem DC_low {s : Nat → Int} {rv : V} {n : Int} {k : Nat} (h : Low k rv) : ∀ c ∈ DC s rv n, Low k c := fun c hc => by
  unfold DC at hc
  rcases List.mem_append.1 hc with hc | hc
  · exact Low.mono (Nat.zero_le _) (isK_low (CK_is ..) c hc)
  · simp at hc; rcases hc with rfl | rfl
    · exact h
    · exact .int _ _
/-- The callee's heap: the digest, and the answer. -/
def WH (h : Hp) (D R : List V) : Hp := h ++ [some (.cells D none), some (.cells R none)]
theorem WH_len (h : Hp) (D R : List V) : (WH h D R).length = h.length + 2 := by simp [WH]
theorem WH_0 (h : Hp) (D R : List V) : hget (WH h D R) h.length = some (.cells D none) := by simp [WH, hget]
theorem WH_1 (h : Hp) (D R : List V) : hget (WH h D R) (h.length + 1) = some (.cells R none) := by simp [WH, hget, List.getElem?_append_right]
theorem WH_set (h : Hp) (D R D' : List V) : (WH h D R).set h.length (some (.cells D' none)) = WH h D' R := by simp [WH]
theorem WH_setR (h : Hp) (D R R' : List V) : (WH h D R).set (h.length + 1) (some (.cells R' none)) = WH h D R' := by simp [WH]
theorem WH_frm (h : Hp) (D R : List V) : Frm h.length h (WH h D R) := Frm.append (Nat.le_refl _) _
theorem WH_low {h : Hp} {D R : List V} (hl : LowH h.length h) (hD : ∀ c ∈ D, Low h.length c) (hR : ∀ c ∈ R, Low 0 c) : LowH (WH h D R).length (WH h D R) := by
  intro β hβ b hb
  rw [WH_len] at hβ
  rcases Nat.lt_or_ge β h.length with h1 | h1
  · rw [(WH_frm h D R).get h1] at hb
    have := hl β h1 b hb
    cases b with
    | cells cs ty => exact fun c hc => Low.mono (by rw [WH_len]; omega) (this c hc)
    | map es => exact fun e he => ⟨Low.mono (by rw [WH_len]; omega) (this e he).1, Low.mono (by rw [WH_len]; omega) (this e he).2⟩
  · rcases (show β = h.length ∨ β = h.length + 1 by omega) with rfl | rfl
    · rw [WH_0] at hb; cases hb
      exact fun c hc => Low.mono (by rw [WH_len]; omega) (hD c hc)
    · rw [WH_1] at hb; cases hb
      exact fun c hc => Low.mono (by omega) (hR c hc)
theorem rdW {h : Hp} {D R : List V} {i : Nat} {v : V} (hv : D[i]? = some v) : rd (WH h D R) (.ptr h.length i) 1 = some [v] := by
  rw [rd_cell (WH_0 h D R)]; exact sub_1 hv
theorem stW {h : Hp} {D R : List V} {i : Nat} {v : V} (h1 : v.one = true) (h2 : v.cells = [v]) (hi : i < D.length) : stV (WH h D R) 1 (.ptr h.length i) v = some (.skip (WH h (D.set i v) R)) := by
  rw [st_cell (WH_0 h D R) h1 h2 hi, WH_set]
def S0 (i : Nat) : Int := intAt DX.start i
theorem start_CK : DX.start = CK .u32 8 S0 := rfl
/-! ### the loops' states -/
def addS (s : Nat → Int) (i : Nat) : Nat → Int := fun p => if p < i then IntKind.u32.wrap (s p + S0 p) else s p
def subS (s : Nat → Int) (i : Nat) : Nat → Int := fun p => if p < i then IntKind.u32.wrap (s p - S0 p) else s p
theorem addS_0 (s : Nat → Int) : addS s 0 = s := funext fun p => by simp [addS]
theorem subS_0 (s : Nat → Int) : subS s 0 = s := funext fun p => by simp [subS]
theorem addS_step (s : Nat → Int) (i : Nat) : upd1 (addS s i) i (IntKind.u32.wrap (addS s i i + S0 i)) = addS s (i + 1) := funext fun p => by
  simp only [upd1, addS]
  by_cases e : p = i
  · subst e; simp
  · rw [if_neg e]
    by_cases e2 : p < i
    · rw [if_pos e2, if_pos (by omega)]
    · rw [if_neg e2, if_neg (by omega)]
theorem subS_step (s : Nat → Int) (i : Nat) : upd1 (subS s i) i (IntKind.u32.wrap (subS s i i - S0 i)) = subS s (i + 1) := funext fun p => by
  simp only [upd1, subS]
  by_cases e : p = i
  · subst e; simp
  · rw [if_neg e]
    by_cases e2 : p < i
    · rw [if_pos e2, if_pos (by omega)]
    · rw [if_neg e2, if_neg (by omega)]
noncomputable def mS (s : Nat → Int) (all : List V) : Nat → (Nat → Int)
  | 0 => s
  | j + 1 => intAt (mixF (CK .u32 8 (mS s all j)) ((all.drop (64 * j)).take 64))
def wv (all : List V) (j : Nat) : V := if all = [] then .nsl else .lst false (all.drop (64 * j))
theorem wv_0 (all : List V) : wv all 0 = ccV all := by simp [wv, ccV]
theorem wv_low {all : List V} (h : isB all) (j : Nat) : Low 0 (wv all j) := by
  unfold wv; split
  · exact .nsl
  · refine .lst _ _ ?_
    intro c hc
    unfold flat at hc
    obtain ⟨y, hy, hc⟩ := List.mem_flatMap.1 hc
    obtain ⟨n, rfl⟩ := h y (List.mem_of_mem_drop hy)
    simp [V.cells] at hc
    subst hc; exact .int _ _
theorem wv_one (all : List V) (j : Nat) : (wv all j).one = true ∧ (wv all j).cells = [wv all j] := by unfold wv; split <;> exact ⟨rfl, rfl⟩
theorem wv_len {all : List V} {j : Nat} (h : Hp) : lenV h .slc (wv all j) = some (.int .i64 ((all.length - 64 * j : Nat) : Int)) := by
  unfold wv; split
  · rename_i e; subst e; simp [lenV]
  · show some _ = some _
    simp
end Go.Proofs.YtfinnljkcgglfaaDoor
namespace Go.Proofs.YtfinnljkcgglfaaDoor
open Go Go.Vs Go.RowKit
set_option maxRecDepth 100000
set_option linter.unusedSimpArgs false
set_option linter.unusedVariables false
attribute [local simp] unV extV wanted strBin vpt vpn vmp nilV_ptr vic vsn

def Z10 : List V := [.int .u32 0, .int .u32 0, .int .u32 0, .int .u32 0, .int .u32 0, .int .u32 0, .int .u32 0, .int .u32 0, .nsl, .int .u64 0]
def iW1 (h : Hp) (s : Nat → Int) (rv : V) (n : Int) (all : List V) (k : Nat) (st : St) : Prop := ∃ i, k + i = 8 ∧ st.d = [] ∧ st.h = WH h (DC (addS s i) rv n) Z10 ∧ st.t 2 = .ptr h.length 0 ∧ st.t 4 = .ptr (h.length + 1) 0 ∧ st.t 5 = ccV all ∧ st.t 22 = .agg (CK .u32 8 S0) ∧ st.t 23 = .int .i64 i
def iW2 (h : Hp) (s : Nat → Int) (rv : V) (n : Int) (all : List V) (k : Nat) (st : St) : Prop := ∃ j, k + j = all.length / 64 ∧ st.d = [] ∧ st.h = WH h (DC (mS s all j) rv n) Z10 ∧ st.t 2 = .ptr h.length 0 ∧ st.t 4 = .ptr (h.length + 1) 0 ∧ st.t 5 = wv all j
def iW3 (h : Hp) (s : Nat → Int) (rv : V) (n : Int) (all : List V) (k : Nat) (st : St) : Prop := ∃ i, k + i = 8 ∧ st.d = [] ∧ st.h = WH h (DC (subS s i) rv n) Z10 ∧ st.t 2 = .ptr h.length 0 ∧ st.t 4 = .ptr (h.length + 1) 0 ∧ st.t 5 = wv all (all.length / 64) ∧ st.t 47 = .agg (CK .u32 8 S0) ∧ st.t 48 = .int .i64 i
noncomputable def wrS (s : Nat → Int) (all : List V) : Nat → Int := subS (mS (addS s 8) all (all.length / 64)) 8
theorem idx8 {A : Nat → Int} {i : Nat} (hi : i < 8) : idxaV 8 1 false (.agg (CK .u32 8 A)) (.int .i64 i) = some (.int .u32 (A i)) := by
  simp only [idxaV, Int.toNat_natCast, Nat.mul_one]
  rw [if_pos (by omega), CK_sub1 hi]
  rfl
theorem iada8 {b i : Nat} (hi : i < 8) : iadaV 8 1 (.ptr b 0) (.int .i64 i) = some (.ptr b i) := by rw [iada_ok (by omega), Nat.zero_add, Nat.mul_one]
theorem isB_len {ys : List V} (h : isB ys) : ∀ y ∈ ys, y.cells.length = 1 := fun y hy => by obtain ⟨n, rfl⟩ := h y hy; rfl
theorem wv_hi {all : List V} {j : Nat} (hB : isB all) (h : 64 * j + 64 ≤ all.length) : slcV 1 (wv all j) 0 (some 64) none = some (.lst false ((all.drop (64 * j)).take 64)) := by
  unfold wv
  rw [if_neg (fun e => by subst e; simp at h)]
  simp only [slcV, Option.getD_some]
  rw [if_pos ⟨by omega, by simp; omega, isB_len fun y hy => hB y (List.mem_of_mem_drop hy)⟩]
  simp [upTo]
theorem wv_lo {all : List V} {j : Nat} (hB : isB all) (h : 64 * j + 64 ≤ all.length) : slcV 1 (wv all j) 64 none none = some (wv all (j + 1)) := by
  unfold wv
  rw [if_neg (fun e => by subst e; simp at h), if_neg (fun e => by subst e; simp at h)]
  simp only [slcV, Option.getD_none]
  rw [if_pos ⟨by simp; omega, by simp, isB_len fun y hy => hB y (List.mem_of_mem_drop hy)⟩]
  simp [upTo, List.drop_drop]
  congr 2
theorem wv_str (all : List V) (j : Nat) : (wv all j).isStr = false := by unfold wv; split <;> rfl
theorem isK_blk {all : List V} {j : Nat} (hB : isB all) (h : 64 * j + 64 ≤ all.length) : isK .u8 64 ((all.drop (64 * j)).take 64) = true :=
  isK_mk (by simp; omega) fun v hv => hB v (List.mem_of_mem_drop (List.mem_of_mem_take hv))
theorem stB8 {h : Hp} {D : Nat → Int} {rv : V} {m : Int} {R c : List V} (hc : isK .u32 8 c = true) : stV (WH h (DC D rv m) R) 8 (.ptr h.length 0) (.agg c) = some (.skip (WH h (DC (intAt c) rv m) R)) := by
  have e : (V.agg c).cells = c := rfl
  have hl := isK_len hc
  have h1 : ∀ v ∈ c, v.one = true := fun v hv => by obtain ⟨n, rfl⟩ := isK_all hc v hv; rfl
  simp only [stV, e, wr, WH_0]
  rw [if_pos ⟨hl, h1⟩, if_pos (by rw [DC_len]; omega), setAll_eq _ _ _ (by rw [DC_len]; omega), hl]
  have e2 : List.take 0 (DC D rv m) ++ c ++ List.drop (0 + 8) (DC D rv m) = DC (intAt c) rv m := by
    rw [List.take_zero, List.nil_append]
    show c ++ [rv, .int .u64 m] = _
    unfold DC
    rw [show CK .u32 8 (intAt c) = c from cellsK_eq hc]
  rw [e2]
  simp [WH_set]
set_option maxHeartbeats 2000000 in
theorem write_run {h : Hp} {rv bV : V} {lr lb : Nat} {rest bs : List V} {s : Nat → Int} {n : Int} (hlow : LowH h.length h) (hr : Sl h 1 rv lr rest) (hrl : Low h.length rv) (hb : Sl h 1 bV lb bs) (hl : lr + lb < 2 ^ 30) (hB : isB (rest ++ bs)) :
    ACalls DX 19 [.agg (DC s rv n), bV] h fun r h' => r = .ret (.agg (DC (wrS s (rest ++ bs)) (wv (rest ++ bs) ((rest ++ bs).length / 64)) (IntKind.u64.wrap (n + lb)))) ∧ Frm h.length h h' := by
  have rone : rv.one = true ∧ rv.cells = [rv] := by
    rcases hr.shape with ⟨rfl, _⟩ | ⟨b, off, cap, ex, ag, cs, ty, rfl, _⟩ | ⟨ex, xs, rfl, _⟩ <;> exact ⟨rfl, rfl⟩
  have bone : bV.cells = [bV] := Sl.cell hb
  have hone := eq_true (DC_one (s := s) (n := n) rone.1)
  have hW : h ++ [some (.cells (DC s rv n) none), some (.cells [V.int .u32 0, .int .u32 0, .int .u32 0, .int .u32 0, .int .u32 0, .int .u32 0, .int .u32 0, .int .u32 0, .nsl, .int .u64 0] none)] = WH h (DC s rv n) Z10 := rfl
  obtain ⟨all, hall⟩ : ∃ all, all = rest ++ bs := ⟨_, rfl⟩
  have hB0 := hB
  rw [← hall] at hB ⊢
  have hrest := hr.ylen
  have hbs := hb.ylen
  have hallL : all.length = lr + lb := by rw [hall, List.length_append]; omega
  have r9 : ∀ D m, rd (WH h (DC D rv m) Z10) (.ptr h.length 9) 1 = some [.int .u64 m] := fun D m => rdW (DC_9 D rv m)
  have r8 : ∀ D m, rd (WH h (DC D rv m) Z10) (.ptr h.length 8) 1 = some [rv] := fun D m => rdW (DC_8 D rv m)
  have s9 : ∀ D m m', stV (WH h (DC D rv m) Z10) 1 (.ptr h.length 9) (.int .u64 m') = some (.skip (WH h (DC D rv m') Z10)) := fun D m m' => by
    rw [stW rfl rfl (by rw [DC_len]; omega), DC_set9]
  have wl : IntKind.u64.wrap (lb : Int) = (lb : Int) := wrapu64 (by omega) (by omega)
  have lb1 := (Sl.frm hb (WH_frm h (DC s rv n) Z10)).len
  have c1 : cviV .u64 (.int .i64 (lb : Int)) = some (.int .u64 (lb : Int)) := by simp only [cviV, wl]
  have hf : fillV [.nsl, .nsl] [(0, 1, rv), (1, 1, bV)] = some [rv, bV] := by
    simp only [fillV, rone.2, bone]
    have b1 : bV.one = true := by
      rcases hb.shape with ⟨rfl, _⟩ | ⟨b, off, cap, ex, ag, cs, ty, rfl, _⟩ | ⟨ex, xs, rfl, _⟩ <;> rfl
    simp [rone.1, b1, setAll]
  refine acall DX.ok ck19 rfl ?_
  simp [F19, V.cells, hone, hW, fadV, r9, asV, lb1, c1, s9, r8]
  simp [hf, chunk]
  refine (concat_spec (h := WH h (DC s rv (IntKind.u64.wrap (n + lb))) Z10) (WH_low hlow (DC_low hrl) (fun c hc => by simp [Z10] at hc; rcases hc with rfl | rfl | rfl <;> first | exact .int _ _ | exact .nsl)) (Sl.frm hr (WH_frm ..)) (Sl.frm hb (WH_frm ..)) hl hB0).mono ?_
  rintro r h2 ⟨rfl, rfl⟩
  rw [← hall]
  have rdg : ∀ h', rd h' (.fp DX.start 0) 8 = some (CK .u32 8 S0) := fun h' => by rw [start_CK]; rfl
  simp [rdg, asV]
  generalize hn' : IntKind.u64.wrap (n + (lb : Int)) = n'
  refine vc_loop _ _ _ (iW1 h s rv n' all) 8 ⟨0, by simp, by simp, by simp [addS_0], by simp, by simp, by simp, by simp; rfl, by simp⟩ ?_
  rintro k ⟨t, h', d⟩ ⟨i, hk, hd, hh, t2, t4, t5, t22, t23⟩
  simp only at hd hh t2 t4 t5 t22 t23
  subst hd hh
  by_cases hi : i < 8
  · have hi1 : (i : Int) < 8 := by omega
    have hi2 : ¬ (8 : Int) ≤ i := by omega
    have w1 : IntKind.i64.wrap ((i : Int) + 1) = (i : Int) + 1 := by rw [wrap64 (by omega) (by omega)]
    have ri : ∀ D m, rd (WH h (DC D rv m) Z10) (.ptr h.length i) 1 = some [.int .u32 (D i)] := fun D m => rdW (DC_get hi)
    have si : ∀ D m y, stV (WH h (DC D rv m) Z10) 1 (.ptr h.length i) (.int .u32 y) = some (.skip (WH h (DC (upd1 D i y) rv m) Z10)) := fun D m y => by
      rw [stW rfl rfl (by rw [DC_len]; omega), DC_set hi]
    simp [t23, t22, hi, hi1, hi2, aop_idxaV, idx8 hi, t2, fadV, aop_iadaV, iada8 hi, ri, si, asV, w1]
    exact ⟨k - 1, by omega, i + 1, by omega, rfl, by rw [addS_step], by simp [t2], by simp [t4], by simp [t5], by simp [t22], by simp⟩
  · have hi8 : i = 8 := by omega
    subst hi8
    simp [t23]
    refine vc_loop _ _ _ (iW2 h (addS s 8) rv n' all) (all.length / 64) ⟨0, by simp, by simp, rfl, by simp [t2], by simp [t4], by simp [t5, wv_0]⟩ ?_
    clear t2 t4 t5 t22 t23
    rintro k2 ⟨t, h', d⟩ ⟨j, hk2, hd, hh, t2, t4, t5⟩
    simp only at hd hh t2 t4 t5
    subst hd hh
    have hlenV := wv_len (all := all) (j := j) (WH h (DC (mS (addS s 8) all j) rv n') Z10)
    have hm := Nat.div_add_mod all.length 64
    have hm2 := Nat.mod_lt all.length (show 0 < 64 by decide)
    by_cases hj : 64 * j + 64 ≤ all.length
    · have g1 : (64 : Int) ≤ ((all.length - 64 * j : Nat) : Int) := by omega
      obtain ⟨q, hq⟩ : ∃ q : Nat, q = all.length - 64 * j := ⟨_, rfl⟩
      rw [← hq] at hlenV g1
      have g2 : 64 ≤ q := by omega
      have h40 : rd (WH h (DC (mS (addS s 8) all j) rv n') Z10) (.ptr h.length 0) 8 = some (CK .u32 8 (mS (addS s 8) all j)) := by
        simp only [rd, WH_0]; exact DC_sub8 ..
      simp [t5, hlenV, g1, g2]
      refine vD_lin ?_
      simp [reL, vLs, vLg, vLq, dstO, nth_zero, nth_succ, nd, tell, fadV, asV, t2, h40, t5, wv_hi hB hj, wv_str]
      have hmx := mix_spec (s := CK .u32 8 (mS (addS s 8) all j)) (CK_is ..) (isK_blk hB hj)
      refine (PCalls.at DX.low hmx.2 (fun v hv => by
        simp at hv; rcases hv with rfl | rfl
        · exact .agg _ (isK_low (CK_is ..))
        · refine .lst _ _ fun c hc => ?_
          unfold flat at hc
          obtain ⟨y, hy, hc⟩ := List.mem_flatMap.1 hc
          obtain ⟨z, rfl⟩ := isK_all (isK_blk hB hj) y hy
          simp [V.cells] at hc; subst hc; exact .int _ _) _).mono ?_
      rintro r h' ⟨rfl, rfl⟩
      simp [t2, fadV, stB8 hmx.1, t5, wv_lo hB hj, wv_str]
      exact ⟨k2 - 1, by omega, j + 1, by omega, rfl, rfl, by simp [t2], by simp [t4], by simp⟩
    · obtain ⟨q, hq⟩ : ∃ q : Nat, q = all.length - 64 * j := ⟨_, rfl⟩
      rw [← hq] at hlenV
      have g1 : ¬ (64 : Int) ≤ (q : Int) := by omega
      have g2 : ¬ 64 ≤ q := by omega
      have g3 : q < 64 := by omega
      have hje : j = all.length / 64 := by omega
      simp [t5, hlenV, g1, g2, g3]
      subst hje
      refine vc_loop _ _ _ (iW3 h (mS (addS s 8) all (all.length / 64)) rv n' all) 8 ⟨0, by simp, by simp, by simp [subS_0], by simp [t2], by simp [t4], by simp [t5], by simp; rfl, by simp⟩ ?_
      clear t2 t4 t5
      rintro k ⟨t, h', d⟩ ⟨i, hk, hd, hh, t2, t4, t5, t47, t48⟩
      simp only at hd hh t2 t4 t5 t47 t48
      subst hd hh
      by_cases hi : i < 8
      · have hi1 : (i : Int) < 8 := by omega
        have hi2 : ¬ (8 : Int) ≤ i := by omega
        have w1 : IntKind.i64.wrap ((i : Int) + 1) = (i : Int) + 1 := by rw [wrap64 (by omega) (by omega)]
        have ri : ∀ D m, rd (WH h (DC D rv m) Z10) (.ptr h.length i) 1 = some [.int .u32 (D i)] := fun D m => rdW (DC_get hi)
        have si : ∀ D m y, stV (WH h (DC D rv m) Z10) 1 (.ptr h.length i) (.int .u32 y) = some (.skip (WH h (DC (upd1 D i y) rv m) Z10)) := fun D m y => by
          rw [stW rfl rfl (by rw [DC_len]; omega), DC_set hi]
        simp [t48, t47, hi, hi1, hi2, aop_idxaV, idx8 hi, t2, fadV, aop_iadaV, iada8 hi, ri, si, asV, w1]
        exact ⟨k - 1, by omega, i + 1, by omega, rfl, by rw [subS_step], by simp [t2], by simp [t4], by simp [t5], by simp [t47], by simp⟩
      · have hi8' : i = 8 := by omega
        subst hi8'
        have wo := wv_one all (all.length / 64)
        have s8 : ∀ D m, stV (WH h (DC D rv m) Z10) 1 (.ptr h.length 8) (wv all (all.length / 64)) = some (.skip (WH h (DC D (wv all (all.length / 64)) m) Z10)) := fun D m => by
          rw [stW wo.1 wo.2 (by rw [DC_len]; omega), DC_set8]
        have r10 : ∀ D w m R, rd (WH h (DC D w m) R) (.ptr h.length 0) 10 = some (DC D w m) := fun D w m R => rd_allc (WH_0 ..) (DC_len ..)
        have sR : ∀ D m, stV (WH h (DC D (wv all (all.length / 64)) m) Z10) 10 (.ptr (h.length + 1) 0) (.agg (DC D (wv all (all.length / 64)) m)) = some (.skip (WH h (DC D (wv all (all.length / 64)) m) (DC D (wv all (all.length / 64)) m))) := fun D m => by
          rw [st_all (n := 10) (old := Z10) (WH_1 ..) rfl (DC_len ..) (DC_one wo.1), WH_setR]
        simp [t48, t5, t2, t4, fadV, s8, r10, asV, sR]
        refine ⟨_, resV_c1 ?_, rfl, WH_frm ..⟩
        simp [t4]
        exact rd_allc (WH_1 ..) (DC_len ..)
theorem shaWrite_spec {h : Hp} {rv bV : V} {lr lb : Nat} {rest bs : List V} {s : Nat → Int} {n : Int} (hlow : LowH h.length h) (hr : Sl h 1 rv lr rest) (hrl : Low h.length rv) (hb : Sl h 1 bV lb bs) (hl : lr + lb < 2 ^ 30) (hB : isB (rest ++ bs)) :
    ACalls DX 19 [.agg (DC s rv n), bV] h fun r h' => r = .ret (.agg (DC (wrS s (rest ++ bs)) (wv (rest ++ bs) ((rest ++ bs).length / 64)) (IntKind.u64.wrap (n + lb)))) ∧ h' = h :=
  ACalls.cut (write_run hlow hr hrl hb hl hB) hlow fun r hr => by subst hr; exact .agg _ (DC_low (wv_low hB _))
end Go.Proofs.YtfinnljkcgglfaaDoor
