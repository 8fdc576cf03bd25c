/- ScriptArgs: the law. -/
import Derived.Test.YtbabpibaccngnaaGreatZaRun2
namespace Go.Proofs.YtbabpibaccngnaaGreat
open Go Go.Vs Go.RowKit
set_option maxRecDepth 100000
set_option linter.unusedSimpArgs false
set_option linter.unusedVariables false

/-- 9: signetring/signetringlaw22.ScriptArgs -/
def L9 : Fun :=
  ⟨78, 2, [.t 4],
    (.seq (.reg [⟨(some 4), (.mov (.k (.bool false))), none⟩])
    (.seq (.seq (.reg [⟨(some 11), (.call (.k (.fn (.func 27) [] [])) []), none⟩,
      ⟨(some 12), (.un .not (.t 11)), none⟩])
    (.cond (.t 12)
      (.seq (.reg [⟨(some 4), (.mov (.k (.bool false))), none⟩])
      .ret)
      .skip))
    (.seq (.reg [⟨(some 13), (.call (.k (.fn (.func 21) [] [])) []), none⟩,
      ⟨(some 14), (.call (.k (.fn (.func 20) [] [])) [(.t 13)]), none⟩,
      ⟨(some 5), (.mov (.t 14)), none⟩])
    (.seq (.reg [⟨(some 15), (.mov (.t 1)), none⟩,
      ⟨(some 16), (.bin .rem .num (.t 15) (.k (.int .u16 1000))), none⟩,
      ⟨(some 17), (.cvi .i64 (.t 16)), none⟩,
      ⟨(some 18), (.j (.mkz 5 40 true [(.int .i64 0), (.int .u8 0), (.int .u8 0), (.int .u64 0), (.str [])] (.t 17) (.t 17))), none⟩,
      ⟨(some 6), (.mov (.t 18)), none⟩])
    (.seq (.reg [⟨(some 20), (.mov (.t 5)), none⟩,
      ⟨(some 21), (.mov (.t 0)), none⟩,
      ⟨(some 22), (.mov (.t 6)), none⟩,
      ⟨(some 23), (.call (.k (.fn (.func 30) [] [])) [(.t 20), (.t 21), (.k (.str [115, 101, 101, 100])), (.t 22)]), none⟩,
      ⟨(some 19), (.mov (.t 23)), none⟩,
      ⟨(some 24), (.ext (.t 19) 0), none⟩,
      ⟨(some 25), (.ext (.t 19) 1), none⟩,
      ⟨(some 7), (.new [.nsl, .nsl, .nsl] none), none⟩,
      ⟨none, (.store 3 (.t 7) (.t 24)), none⟩,
      ⟨(some 8), (.mov (.t 25)), none⟩])
    (.seq (.reg [⟨(some 9), (.mov (.k (.int .i64 0))), none⟩])
    (.seq (.block 0
      (.seq (.reg [⟨(some 27), (.mov (.t 0)), none⟩,
        ⟨(some 28), (.bin .lss .num (.t 27) (.k (.int .i64 1))), none⟩,
        ⟨(some 29), (.mov (.t 28)), none⟩,
        ⟨(some 30), (.mov (.t 0)), some (29, false)⟩,
        ⟨(some 31), (.bin .gtr .num (.t 30) (.k (.int .i64 6))), some (29, false)⟩,
        ⟨(some 32), (.pick (.t 29) (.k (.bool true)) (.t 31)), none⟩,
        ⟨(some 26), (.mov (.t 32)), none⟩])
      (.cond (.t 26)
        (.reg [⟨(some 9), (.mov (.k (.int .i64 2))), none⟩])
        (.seq (.reg [⟨(some 34), (.mov (.t 6)), none⟩,
          ⟨(some 35), (.len .slc (.t 34)), none⟩,
          ⟨(some 36), (.bin .gtr .num (.t 35) (.k (.int .i64 500))), none⟩,
          ⟨(some 33), (.mov (.t 36)), none⟩])
        (.cond (.t 33)
          (.reg [⟨(some 9), (.mov (.k (.int .i64 3))), none⟩])
          .skip)))))
    (.seq (.seq (.reg [⟨(some 37), (.mov (.t 8)), none⟩,
      ⟨(some 38), (.mov (.t 9)), none⟩,
      ⟨(some 39), (.bin .neq .num (.t 37) (.t 38)), none⟩])
    (.cond (.t 39)
      (.seq (.reg [⟨(some 4), (.mov (.k (.bool false))), none⟩])
      .ret)
      .skip))
    (.seq (.seq (.reg [⟨(some 40), (.mov (.t 8)), none⟩,
      ⟨(some 41), (.bin .neq .num (.t 40) (.k (.int .i64 0))), none⟩])
    (.cond (.t 41)
      (.seq (.reg [⟨(some 42), (.load 3 true (.t 7)), none⟩,
        ⟨(some 43), (.build [.nsl, .nsl, .nsl] []), none⟩,
        ⟨(some 44), (.call (.k (.fn (.func 31) [] [])) [(.t 42), (.t 43)]), none⟩,
        ⟨(some 4), (.mov (.t 44)), none⟩])
      .ret)
      .skip))
    (.seq (.seq (.reg [⟨(some 45), (.mov (.t 6)), none⟩,
      ⟨(some 46), (.len .slc (.t 45)), none⟩,
      ⟨(some 47), (.mov (.k (.int .i64 0))), none⟩])
    (.block 1
      (.loop
        (.seq (.reg [⟨(some 48), (.bin .lss .num (.t 47) (.t 46)), none⟩])
        (.seq (.cond (.t 48)
          .skip
          (.exit 1))
        (.seq (.block 2
          (.seq (.reg [⟨(some 49), (.mov (.t 47)), none⟩,
            ⟨(some 10), (.mov (.t 49)), none⟩])
          (.seq (.reg [⟨(some 50), (.fad 1 (.t 7)), none⟩,
            ⟨(some 51), (.load 1 false (.t 50)), none⟩,
            ⟨(some 52), (.mov (.t 10)), none⟩,
            ⟨(some 53), (.iad 1 (.t 51) (.t 52)), none⟩,
            ⟨(some 54), (.load 1 false (.t 53)), none⟩,
            ⟨(some 55), (.bin .neq .num (.t 54) (.k (.int .i64 2))), none⟩,
            ⟨(some 56), (.mov (.t 55)), none⟩,
            ⟨(some 57), (.fad 0 (.t 7)), some (56, false)⟩,
            ⟨(some 58), (.load 1 false (.t 57)), some (56, false)⟩,
            ⟨(some 59), (.mov (.t 10)), some (56, false)⟩,
            ⟨(some 60), (.iad 1 (.t 58) (.t 59)), some (56, false)⟩,
            ⟨(some 61), (.load 1 false (.t 60)), some (56, false)⟩,
            ⟨(some 62), (.bin .neq .str (.t 61) (.k (.str []))), some (56, false)⟩,
            ⟨(some 63), (.pick (.t 56) (.k (.bool true)) (.t 62)), none⟩])
          (.cond (.t 63)
            (.seq (.reg [⟨(some 4), (.mov (.k (.bool false))), none⟩])
            .ret)
            .skip))))
        (.reg [⟨(some 64), (.bin .add .num (.t 47) (.k (.int .i64 1))), none⟩,
          ⟨(some 47), (.mov (.t 64)), none⟩])))))))
    (.seq (.reg [⟨(some 65), (.fad 1 (.t 7)), none⟩,
      ⟨(some 66), (.load 1 false (.t 65)), none⟩,
      ⟨(some 67), (.len .slc (.t 66)), none⟩,
      ⟨(some 68), (.mov (.t 6)), none⟩,
      ⟨(some 69), (.len .slc (.t 68)), none⟩,
      ⟨(some 70), (.bin .eql .num (.t 67) (.t 69)), none⟩,
      ⟨(some 71), (.mov (.t 70)), none⟩,
      ⟨(some 72), (.fad 2 (.t 7)), some (71, true)⟩,
      ⟨(some 73), (.load 1 false (.t 72)), some (71, true)⟩,
      ⟨(some 74), (.len .slc (.t 73)), some (71, true)⟩,
      ⟨(some 75), (.mov (.t 0)), some (71, true)⟩,
      ⟨(some 76), (.bin .eql .num (.t 74) (.t 75)), some (71, true)⟩,
      ⟨(some 77), (.pick (.t 71) (.t 76) (.k (.bool false))), none⟩,
      ⟨(some 4), (.mov (.t 77)), none⟩])
    .ret)))))))))))⟩
theorem ckL9 : ckF CX.P 9 L9 = true := by kernel_rfl
attribute [local simp] unV extV wanted strBin vp1 vp2 np1

theorem same0 : PCalls CX 31 [.agg [.nsl, .nsl, .nsl], .agg [.nsl, .nsl, .nsl]] fun r => r = .ret (.bool true) := K.pure_ok CX.ok CX.low CT.ok (n := 1000) (by kernel_rfl)
def mkzVV (h : Hp) (es bt : Nat) (ag : Bool) (z : List V) : V → V → Option Rz
  | .int .i64 l, .int .i64 c => if 0 ≤ l ∧ l = c ∧ c * bt ≤ room ∧ c ≤ room then some (.val (.lst true (chunk es ag c.toNat (List.replicate c.toNat z).flatten)) h) else none
  | _, _ => none
theorem aop_mkzV {x : X} {t : Nat → V} {h : Hp} (es bt : Nat) (ag : Bool) (z : List V) (a b : O) : aop x t h (.j (.mkz es bt ag z a b)) = mkzVV h es bt ag z (a.ev x t) (b.ev x t) := by
  rfl
theorem mkz_zl (h : Hp) {m : Nat} (hm : m < 1000) : mkzVV h 5 40 true [.int .i64 0, .int .u8 0, .int .u8 0, .int .u64 0, .str []] (.int .i64 m) (.int .i64 m) = some (.val (ZL m) h) := by
  simp only [mkzVV]
  rw [if_pos (by refine ⟨?_, ?_, ?_, ?_⟩ <;> first | trivial | omega | (unfold room; omega))]
  rfl
theorem own_at {h : Hp} {k : Nat} {v : V} {n : Nat} {ys : List V} (H : Vs.Own h k 1 false v n ys) {i : Nat} (hi : i < n) : ∃ a, iadV 1 v (.int .i64 i) = some a ∧ rd h a 1 = some [ys.getD i .nptr] := by
  obtain ⟨hl, ⟨rfl, rfl⟩ | ⟨rfl, rfl⟩ | ⟨b, cap, ex, rest, ty, rfl, hb, hg, hc, hce⟩⟩ := H
  · omega
  · omega
  · refine ⟨.ptr b (0 + i * 1), ?_, ?_⟩
    · simp only [iadV, Int.toNat_natCast]
      rw [if_pos (by refine ⟨?_, ?_, ?_⟩ <;> first | trivial | omega)]
    · simp only [rd, hg, sub]
      rw [if_pos (by simp; omega)]
      rw [List.drop_append_of_le_length (by omega)]
      have e : List.drop i ys = ys[i] :: List.drop (i + 1) ys := List.drop_eq_getElem_cons (by omega)
      simp
      rw [e, List.getElem?_eq_getElem (by omega), List.cons_append]
      rfl

def argInv (tx er tl : V) (m n k : Nat) (st : St) : Prop := ∃ i : Nat, k + i = m ∧ st.t 47 = .int .i64 i ∧ st.t 46 = .int .i64 m ∧ (∃ β, st.t 7 = .ptr β 0 ∧ hget st.h β = some (.cells [tx, er, tl] none)) ∧ st.t 6 = ZL m ∧ st.t 0 = .int .i64 n ∧ st.d = [] ∧
  Vs.Own st.h 0 1 false tx m (List.replicate m (.str [])) ∧ Vs.Own st.h 0 1 false er m (List.replicate m (.int .i64 2)) ∧ Vs.Own st.h 0 1 false tl n (List.replicate n .nsl)

set_option maxHeartbeats 2000000 in
theorem args_law {n mm : Int} (hm0 : 0 ≤ mm) (hm1 : mm < 65536) : PCalls CX 9 [.int .i64 n, .int .u16 mm] fun r => r = .ret (.bool true) := by
  refine PCalls.of (acall CX.ok ckL9 rfl ?_) fun r hr => by subst hr; exact .bool _
  have hseed : (V.str [115, 101, 101, 100]) = seedV := rfl
  obtain ⟨m, hm, hml⟩ : ∃ m : Nat, mm.tmod 1000 = m ∧ m < 1000 := ⟨(mm % 1000).toNat, by rw [Int.tmod_eq_emod_of_nonneg (by omega)]; omega, by omega⟩
  have hcv : cviV .i64 (.int .u16 m) = some (.int .i64 m) := by
    simp only [cviV, Option.some.injEq, V.int.injEq, true_and]
    exact wrap64 (by omega) (by omega)
  simp [L9]
  refine (PCalls.at CX.low alive22 (fun a ha => by cases ha) _).mono ?_
  rintro r h' ⟨rfl, rfl⟩
  simp
  refine (show ACalls CX 21 [] [] _ from Za.s0_ok).mono ?_
  rintro r h' ⟨rfl, rfl⟩
  simp [Za.s0]
  refine (show ACalls CX 20 [.ptr 2 0] Za.H1 _ from Za.s1_ok).mono ?_
  rintro r h' ⟨rfl, rfl⟩
  simp [Za.s1, hm, hcv, aop_mkzV, mkz_zl _ hml, hseed]
  have bad : ∀ (e : Int) (he : e ≠ 0) (h : Hp), stV (h ++ [some (.cells [.nsl, .nsl, .nsl] none)]) 3 (.ptr h.length 0) (.agg [.nsl, .nsl, .nsl]) = some (.skip (h ++ [some (.cells [.nsl, .nsl, .nsl] none)])) := fun e he h => by
    simp [stV, V.cells, wr, hget_new, V.one, setAll]
  have rbad : ∀ h, rd (h ++ [some (.cells [.nsl, .nsl, .nsl] none)]) (.ptr h.length 0) 3 = some [.nsl, .nsl, .nsl] := fun h => by simp [rd, hget_new, sub]
  by_cases hn : n < 1 ∨ 6 < n
  · refine (run_bad hn m).mono ?_
    rintro r h' rfl
    have hb := bad 2 (by decide) h'
    by_cases h1 : n < 1
    · have h1' : ¬ 1 ≤ n := by omega
      simp [hb, rbad, h1, h1', asV, fillV]
      refine (PCalls.at CX.low same0 (fun a ha => by simp at ha; subst ha; exact .agg _ (by simp; exact .nsl)) _).mono ?_
      rintro r h' ⟨rfl, rfl⟩
      simp
    · have h1' : 1 ≤ n := by omega
      have h2 : 6 < n := by omega
      have h2' : ¬ n ≤ 6 := by omega
      simp [hb, rbad, h1, h1', h2, h2', asV, fillV]
      refine (PCalls.at CX.low same0 (fun a ha => by simp at ha; subst ha; exact .agg _ (by simp; exact .nsl)) _).mono ?_
      rintro r h' ⟨rfl, rfl⟩
      simp
  · obtain ⟨n, rfl⟩ : ∃ k : Nat, n = k := ⟨n.toNat, by omega⟩
    have h1 : 1 ≤ n := by omega
    have h6 : n ≤ 6 := by omega
    have g1 : ¬ (n : Int) < 1 := by omega
    have g1' : (1 : Int) ≤ n := by omega
    have g2 : ¬ 6 < (n : Int) := by omega
    have g2' : (n : Int) ≤ 6 := by omega
    have g3 : ¬ n = 0 := by omega
    have g4 : 0 < n := by omega
    by_cases hbig : 500 < m
    · refine (run_big h1 h6 hbig hml).mono ?_
      rintro r h' rfl
      have hb := bad 3 (by decide) h'
      have k1 : (500 : Int) < m := by omega
      have k1' : ¬ (m : Int) ≤ 500 := by omega
      simp [hb, rbad, g1, g1', g2, g2', g3, g4, asV, fillV, zl_len, k1, k1']
      refine (PCalls.at CX.low same0 (fun a ha => by simp at ha; subst ha; exact .agg _ (by simp; exact .nsl)) _).mono ?_
      rintro r h' ⟨rfl, rfl⟩
      simp
    · refine (run_ok h1 h6 (m := m) (by omega)).mono ?_
      rintro r h' ⟨tx, er, tl, rfl, ox, oe, ol⟩
      have k1 : ¬ (500 : Int) < m := by omega
      have k1' : (m : Int) ≤ 500 := by omega
      have o1 := one_own ox
      have o2 := one_own oe
      have o3 := one_own ol
      have hst : stV (h' ++ [some (.cells [.nsl, .nsl, .nsl] none)]) 3 (.ptr h'.length 0) (.agg [tx, er, tl]) = some (.skip (h' ++ [some (.cells [tx, er, tl] none)])) := by
        simp [stV, V.cells, wr, hget_new, setAll, o1.1, o2.1, o3.1]
      simp [hst, g1, g1', g2, g2', g3, g4, asV, fillV, zl_len, k1, k1']
      refine vc_loop _ _ _ (argInv tx er tl m n) m ⟨0, by simp, by simp, by simp, ⟨h'.length, by simp, hget_new _ _⟩, by simp, by simp, rfl, own_push ox _, own_push oe _, own_push ol _⟩ ?_
      rintro k ⟨t, h, d⟩ ⟨i, hk, t47, t46, ⟨β, t7, hg⟩, t6, t0, hd, px, pe, pl⟩
      simp only at t47 t46 t7 t6 t0 hd px pe pl hg
      subst hd
      have q0 := rd_c hg 0
      have q1 := rd_c hg 1
      have q2 := rd_c hg 2
      simp [sub] at q0 q1 q2
      by_cases hi : i < m
      · have hii : (i : Int) < m := by omega
        have hii' : ¬ (m : Int) ≤ i := by omega
        obtain ⟨a1, ia1, ra1⟩ := own_at px hi
        obtain ⟨a2, ia2, ra2⟩ := own_at pe hi
        simp [hi] at ra1 ra2
        have hw : IntKind.i64.wrap ((i : Int) + 1) = (i : Int) + 1 := wrap64 (by omega) (by omega)
        simp [t47, t46, t7, hii, hii', fadV, q0, q1, asV, ia1, ia2, ra1, ra2, hw]
        exact ⟨k - 1, by omega, i + 1, by omega, by simp, by simp [t46], ⟨β, by simp [t7], hg⟩, by simp [t6], by simp [t0], rfl, px, pe, pl⟩
      · have hii : ¬ (i : Int) < m := by omega
        have hii' : (m : Int) ≤ i := by omega
        simp [t47, t46, t7, hii, hii', fadV, q0, q1, q2, asV, own_len pe, own_len pl, t6, zl_len, t0]
end Go.Proofs.YtbabpibaccngnaaGreat
