/- The laws on groups and on what is taken, over plain data (4): FanRow. -/
import Derived.Test.YtpefpiccljohlaaZfLaw3
namespace Go.Proofs.Ytpefpiccljohlaa
open Go.Vs Go.RowKit
set_option linter.unusedSimpArgs false
set_option linter.unusedVariables false
attribute [local simp] unV extV wanted strBin

def lookV (h : Hp) (q : Q) (zero : V) (ok : Bool) (m k : V) : Option Rz := match m with
  | .nmap => some (.val (if ok then .tup [zero, .bool false] else zero) h)
  | .map b => match hget h b with
    | some (.map es) => (findM q k es).map fun r => .val (if ok then .tup [r.getD zero, .bool r.isSome] else r.getD zero) h
    | _ => none
  | _ => none
theorem aop_look (x : X) (t : Nat → V) (h : Hp) (q : Q) (zero : V) (a i : O) (ok : Bool) : aop x t h (.look q zero a i ok) = lookV h q zero ok (a.ev x t) (i.ev x t) := rfl
def updV (h : Hp) (q : Q) (m k v : V) : Option Rz := match m with
  | .map b => match hget h b with
    | some (.map es) => (putM q k v es).map fun es => .skip (h.set b (some (.map es)))
    | _ => none
  | _ => none
theorem aop_upd (x : X) (t : Nat → V) (h : Hp) (q : Q) (m k v : O) : aop x t h (.upd q m k v) = updV h q (m.ev x t) (k.ev x t) (v.ev x t) := rfl
theorem aop_mkm (x : X) (t : Nat → V) (h : Hp) : aop x t h .mkm = some (.val (.map h.length) (h ++ [some (.map [])])) := rfl

/-- Each text once. -/
def seenOf (G : List (List UInt8)) : List (V × V) := G.map fun p => (V.str p, V.int .i64 1)
theorem findM_seen {G : List (List UInt8)} {p : List UInt8} (h : p ∉ G) : findM .str (.str p) (seenOf G) = some none := by
  induction G with
  | nil => rfl
  | cons a r ih =>
    simp only [List.mem_cons, not_or] at h
    have hb : (p == a) = false := by simpa using h.1
    simp only [seenOf, List.map_cons, findM, veq, hb]
    exact ih h.2
theorem putM_seen {G : List (List UInt8)} {p : List UInt8} {v : V} (h : p ∉ G) : putM .str (.str p) v (seenOf G) = some (seenOf G ++ [(.str p, v)]) := by
  induction G with
  | nil => rfl
  | cons a r ih =>
    simp only [List.mem_cons, not_or] at h
    have hb : (p == a) = false := by simpa using h.1
    have := ih h.2
    simp only [seenOf] at this
    simp only [seenOf, List.map_cons, putM, veq, hb, this]
    rfl

def addAll (ps : List (List UInt8)) : List (List UInt8) := ps.foldl (fun g p => (addL g p).1) []
theorem addAll_snoc (ps : List (List UInt8)) (p : List UInt8) : addAll (ps ++ [p]) = (addL (addAll ps) p).1 := by simp [addAll]
theorem addL_good {G : List (List UInt8)} {p : List UInt8} (h1 : G.Nodup) (h2 : G.length ≤ 6) : (addL G p).1.Nodup ∧ (addL G p).1.length ≤ 6 ∧ ((addL G p).2 = 0 ∧ (addL G p).1 = G ++ [p] ∧ p ∉ G ∨ (addL G p).2 ≠ 0 ∧ (addL G p).1 = G) := by
  unfold addL
  split
  · exact ⟨h1, h2, .inr ⟨by simp, rfl⟩⟩
  · split
    · exact ⟨h1, h2, .inr ⟨by simp, rfl⟩⟩
    · rename_i hm
      split
      · exact ⟨h1, h2, .inr ⟨by simp, rfl⟩⟩
      · refine ⟨?_, by simp; omega, .inl ⟨rfl, rfl, hm⟩⟩
        rw [List.nodup_append]
        exact ⟨h1, by simp, fun a ha b hb => by simp at hb; subst hb; rintro rfl; exact hm ha⟩
theorem addAll_good (ps : List (List UInt8)) : (addAll ps).Nodup ∧ (addAll ps).length ≤ 6 := by
  have : ∀ (l G : List (List UInt8)), G.Nodup → G.length ≤ 6 → (l.foldl (fun g p => (addL g p).1) G).Nodup ∧ (l.foldl (fun g p => (addL g p).1) G).length ≤ 6 := by
    intro l
    induction l with
    | nil => intro G h1 h2; exact ⟨h1, h2⟩
    | cons p r ih => intro G h1 h2; exact ih _ (addL_good h1 h2).1 (addL_good h1 h2).2.1
  exact this ps [] (by simp) (by simp)

theorem remL_snoc {G : List (List UInt8)} {p : List UInt8} (h : p ∉ G) : remL (G ++ [p]) p = (G, 0) := by
  have : (G ++ [p]).findIdx? (· == p) = some G.length := by
    rw [List.findIdx?_eq_some_iff_getElem]
    refine ⟨by simp, by simp, fun j hj => ?_⟩
    rw [List.getElem_append_left hj]
    simp
    rintro rfl
    exact h (List.getElem_mem hj)
  simp [remL, this]

def rowInv (l : V) (ps : List (List UInt8)) (p : List UInt8) (k : Nat) (st : St) : Prop :=
  ∃ (i : Nat) (g : V), k + i = ps.length ∧ st.t 1 = .str p ∧ st.t 5 = g ∧ Fz 1 g (addAll (ps.take i)).length ((addAll (ps.take i)).map .str) ∧ st.t 27 = l ∧ st.t 28 = .int .i64 ps.length ∧ st.t 29 = .int .i64 i ∧ st.h = [] ∧ st.d = []

def rowInv2 (g : V) (G : List (List UInt8)) (p : List UInt8) (k : Nat) (st : St) : Prop :=
  ∃ (i : Nat), k + i = G.length ∧ st.t 1 = .str p ∧ st.t 5 = g ∧ st.t 10 = .map 0 ∧ st.t 51 = g ∧ st.t 52 = .int .i64 G.length ∧ st.t 53 = .int .i64 i ∧ st.h = [some (.map (seenOf (G.take i)))] ∧ st.d = []

set_option maxHeartbeats 8000000 in
/-- FanRow: whatever the texts, true. -/
theorem fanRow_law {l : V} {ps : List (List UInt8)} {p : List UInt8} (H : Fz 1 l ps.length (ps.map .str)) (hn : ps.length < 9223372036854775808) : PCalls FX 6 [l, .str p] Yes := by
  refine PCalls.of ?_ (fun r hr => by subst hr; exact .bool _)
  refine acall FX.ok ck6 rfl ?_
  simp [F6]
  refine (aliveP _).mono ?_
  rintro r h ⟨rfl, rfl⟩
  simp
  refine (few_spec (H _) hn).mono ?_
  rintro r h ⟨b, rfl, rfl, hb⟩
  have hl := (H []).len
  cases b with
  | false => simp
  | true =>
    obtain ⟨h200, hall⟩ := hb rfl
    by_cases h500 : (500 : Int) < p.length
    · simp [h500]
    · simp [h500, hl]
      refine vc_loop _ _ _ (rowInv l ps p) ps.length ⟨0, .nsl, by simp, by simp, by simp, Fz.nil1, by simp, by simp, by simp, rfl, rfl⟩ ?_
      rintro k ⟨t, h', d⟩ ⟨i, g, hk, h1, h5, hg, h27, h28, h29, hh, hd⟩
      simp only at h1 h5 h27 h28 h29 hh hd
      subst hh; subst hd
      obtain ⟨hnd, h6⟩ := addAll_good (ps.take i)
      have hgl := (hg []).len
      by_cases hi : i < ps.length
      · obtain ⟨q, hq1, hq2⟩ := (H []).at (k := .i64) hi
        have hpi : ps[i]? = some (ps[i]'hi) := List.getElem?_eq_getElem _
        generalize ps[i]'hi = pi at hpi
        rw [one_at (y := .str pi) (by simp [hpi])] at hq2
        have htk : ps.take (i + 1) = ps.take i ++ [pi] := by rw [List.take_add_one, hpi]; rfl
        have hw : IntKind.i64.wrap ((i : Int) + 1) = (i : Int) + 1 := by rw [wrap64 (by omega) (by omega)]
        simp [h27, h28, h29, hi, hq1, hq2, asV, h5]
        refine (addP hg (by omega) _).mono ?_
        rintro r h1' ⟨⟨v, rfl, hv⟩, rfl⟩
        obtain ⟨_, _, hc⟩ := addL_good (p := pi) hnd h6
        have hvl := (hv []).len
        have hgo : Fz 1 v (addAll (ps.take (i + 1))).length ((addAll (ps.take (i + 1))).map .str) := by rw [htk, addAll_snoc]; exact hv
        rcases hc with ⟨c1, c2, c3⟩ | ⟨c1, c2⟩
        · have hw2 : IntKind.i64.wrap (((addAll (ps.take i)).length : Int) + 1) = ((addAll (ps.take i)).length : Int) + 1 := by rw [wrap64 (by omega) (by omega)]
          have hll : ((addL (addAll (ps.take i)) pi).1.length : Int) = ((addAll (ps.take i)).length : Int) + 1 := by rw [c2]; simp
          simp [c1, hvl, hgl, h5, hw2, hll, veq, h29, hw]
          exact ⟨k - 1, by omega, i + 1, v, by omega, by simp [h1], by simp, hgo, by simp [h27], by simp [h28], by simp, rfl, rfl⟩
        · have hw2 : IntKind.i64.wrap (((addAll (ps.take i)).length : Int) + 1) = ((addAll (ps.take i)).length : Int) + 1 := by rw [wrap64 (by omega) (by omega)]
          have hb1 : ((addL (addAll (ps.take i)) pi).2 == 0) = false := by simpa using c1
          have hll : ((addL (addAll (ps.take i)) pi).1.length : Int) = ((addAll (ps.take i)).length : Int) := by rw [c2]
          have hb2 : (((addAll (ps.take i)).length : Int) == ((addAll (ps.take i)).length : Int) + 1) = false := by simp; omega
          simp [hb1, hvl, hgl, h5, hw2, hll, hb2, veq, h29, hw]
          exact ⟨k - 1, by omega, i + 1, v, by omega, by simp [h1], by simp, hgo, by simp [h27], by simp [h28], by simp, rfl, rfl⟩
      · have hi' : i = ps.length := by omega
        subst hi'
        rw [List.take_length] at hg hgl hnd h6
        generalize addAll ps = G at *
        simp [h27, h28, h29, h5, aop_mkm, hgl]
        have hgl2 := fun x => (hg x).len
        simp [hgl2]
        refine vc_loop _ _ _ (rowInv2 g G p) G.length ⟨0, by simp, by simp [h1], by simp [h5], by simp, by simp, by simp, by simp, by simp [seenOf], rfl⟩ ?_
        rintro k ⟨t, h', d⟩ ⟨i, hk, h1, h5, h10, h51, h52, h53, hh, hd⟩
        simp only at h1 h5 h10 h51 h52 h53 hh hd
        subst hh; subst hd
        by_cases hi : i < G.length
        · obtain ⟨q, hq1, hq2⟩ := (hg [some (.map (seenOf (G.take i)))]).at (k := .i64) hi
          have hpi : G[i]? = some (G[i]'hi) := List.getElem?_eq_getElem _
          have hnm : G[i]'hi ∉ G.take i := by
            intro hm
            obtain ⟨j, hj, he⟩ := List.getElem_of_mem hm
            rw [List.getElem_take] at he
            have hj' : j < i := by simp at hj; omega
            exact (List.pairwise_iff_getElem.1 hnd) j i (by omega) hi hj' he
          generalize G[i]'hi = pi at hpi hnm
          rw [one_at (y := .str pi) (by simp [hpi])] at hq2
          have htk : G.take (i + 1) = G.take i ++ [pi] := by rw [List.take_add_one, hpi]; rfl
          have hw : IntKind.i64.wrap ((i : Int) + 1) = (i : Int) + 1 := by rw [wrap64 (by omega) (by omega)]
          have hw1 : IntKind.i64.wrap (0 + 1) = 1 := by decide
          have hw1' : IntKind.i64.wrap 1 = 1 := by decide
          have hgm : hget [some (Blk.map (seenOf (G.take i)))] 0 = some (.map (seenOf (G.take i))) := rfl
          simp [h51, h52, h53, hi, hq1, hq2, asV, h10, aop_look, aop_upd, lookV, updV, hgm, findM_seen hnm, putM_seen hnm, hw, hw1, hw1']
          exact ⟨k - 1, by omega, i + 1, by omega, by simp [h1], by simp [h5], by simp [h10], by simp [h51], by simp [h52], by simp, by simp [htk, seenOf], rfl⟩
        · have hi' : i = G.length := by omega
          subst hi'
          rw [List.take_length]
          have hml : lenV [some (Blk.map (seenOf G))] .map (.map 0) = some (.int .i64 G.length) := by simp [lenV, hget, seenOf]
          have h6' : ¬ (6 : Int) < G.length := by omega
          simp [h51, h52, h53, h10, h5, hml, hgl2, h6', h1]
          refine (addP hg (by omega) _).mono ?_
          rintro r h1' ⟨⟨v, rfl, hv⟩, rfl⟩
          obtain ⟨_, _, hc⟩ := addL_good (p := p) hnd h6
          rcases hc with ⟨c1, c2, c3⟩ | ⟨c1, c2⟩
          · simp [c1, h1]
            rw [c2] at hv
            refine (removeP (p := p) hv (by simp; omega) _).mono ?_
            rintro r h1' ⟨⟨v2, rfl, hv2⟩, rfl⟩
            rw [remL_snoc c3] at hv2 ⊢
            simp [h5]
            refine (same_spec (hv2 _) (hg _) (by simp; omega) (by omega)).mono ?_
            rintro r h1' ⟨rfl, rfl⟩
            simp
          · have hb1 : ((addL G p).2 != 0) = true := by simpa using c1
            simp [hb1, h5]
            rw [c2] at hv
            refine (same_spec (hv _) (hg _) (by omega) (by omega)).mono ?_
            rintro r h1' ⟨rfl, rfl⟩
            simp

end Go.Proofs.Ytpefpiccljohlaa
