/- PrimsSizes: its code, in pieces (printed by wip/tools/gensizes.py). -/
import Derived.Test.YtfinnljkcgglfaaDoorZjRJ
import Derived.Test.YtfinnljkcgglfaaDoorZiLw
set_option linter.unusedSimpArgs false
set_option linter.unusedVariables false
namespace Go.Proofs.YtfinnljkcgglfaaDoor
open Go Go.Vs Go.RowKit
set_option maxRecDepth 100000
def szIn : C := (.seq (.reg [⟨(some 60), (.mov (.t 9)), none⟩,
            ⟨(some 61), (.len .slc (.t 60)), none⟩,
            ⟨(some 62), (.mov (.k (.int .i64 0))), none⟩])
          (.block 2
            (.loop
              (.seq (.reg [⟨(some 63), (.bin .lss .num (.t 62) (.t 61)), none⟩])
              (.seq (.cond (.t 63)
                .skip
                (.exit 2))
              (.seq (.block 3
                (.seq (.reg [⟨(some 64), (.iad 1 (.t 60) (.t 62)), none⟩,
                  ⟨(some 65), (.load 1 false (.t 64)), none⟩,
                  ⟨(some 11), (.mov (.t 65)), none⟩])
                (.seq (.reg [⟨(some 66), (.mov (.t 11)), none⟩,
                  ⟨(some 67), (.len .str (.t 66)), none⟩,
                  ⟨(some 68), (.bin .neq .num (.t 67) (.k (.int .i64 32))), none⟩])
                (.cond (.t 68)
                  (.seq (.reg [⟨(some 6), (.mov (.k (.bool false))), none⟩])
                  .ret)
                  .skip))))
              (.reg [⟨(some 69), (.bin .add .num (.t 62) (.k (.int .i64 1))), none⟩,
                ⟨(some 62), (.mov (.t 69)), none⟩])))))))
def szEnd : C := (.seq (.seq (.reg [⟨(some 54), (.mov (.t 9)), none⟩,
            ⟨(some 55), (.len .slc (.t 54)), none⟩,
            ⟨(some 56), (.mov (.t 2)), none⟩,
            ⟨(some 57), (.bin .rem .num (.t 56) (.k (.int .u8 4))), none⟩,
            ⟨(some 58), (.cvi .i64 (.t 57)), none⟩,
            ⟨(some 59), (.bin .neq .num (.t 55) (.t 58)), none⟩])
          (.cond (.t 59)
            (.seq (.reg [⟨(some 6), (.mov (.k (.bool false))), none⟩])
            .ret)
            .skip))
          szIn)
def szRound : C := (.seq (.reg [⟨(some 24), (.iad 1 (.t 20) (.t 22)), none⟩,
            ⟨(some 25), (.load 1 false (.t 24)), none⟩,
            ⟨(some 8), (.mov (.t 25)), none⟩])
          (.seq (.seq (.dreg [⟨(some 26), (.mov (.t 8)), none⟩,
            ⟨(some 27), (.slca 32 1 false (.t 3) none none none), none⟩,
            ⟨(some 28), (.b2s (.t 27)), none⟩,
            ⟨(some 29), (.mkf (.method "Pub") [(.t 26)] []), none⟩,
            ⟨(some 30), (.nilck (.t 29)), none⟩,
            ⟨(some 31), (.mov (.t 26)), none⟩,
            ⟨(some 32), (.inv (.t 31) "Pub" [(.t 28)]), none⟩,
            ⟨(some 33), (.len .str (.t 32)), none⟩,
            ⟨(some 34), (.bin .neq .num (.t 33) (.k (.int .i64 32))), none⟩,
            ⟨(some 35), (.mov (.t 34)), none⟩,
            ⟨(some 36), (.mov (.t 8)), some (35, false)⟩,
            ⟨(some 37), (.mov (.t 1)), some (35, false)⟩,
            ⟨(some 38), (.mov (.t 1)), some (35, false)⟩,
            ⟨(some 39), (.inv (.t 36) "Hash" [(.t 37), (.t 38)]), some (35, false)⟩,
            ⟨(some 40), (.len .str (.t 39)), some (35, false)⟩,
            ⟨(some 41), (.bin .neq .num (.t 40) (.k (.int .i64 32))), some (35, false)⟩,
            ⟨(some 42), (.pick (.t 35) (.k (.bool true)) (.t 41)), none⟩] (.lin [] [(0, none), (1, none), (2, none), (3, none), (4, none), (5, none), (6, some []), (7, none), (8, none), (9, none), (10, none), (11, none), (12, none), (13, some []), (14, none), (15, none), (16, none)]))
          (.cond (.t 42)
            (.seq (.reg [⟨(some 6), (.mov (.k (.bool false))), none⟩])
            .ret)
            .skip))
          (.seq (.dreg [⟨(some 43), (.mov (.t 8)), none⟩,
            ⟨(some 44), (.slca 32 1 false (.t 3) none none none), none⟩,
            ⟨(some 45), (.b2s (.t 44)), none⟩,
            ⟨(some 46), (.mov (.t 1)), none⟩,
            ⟨(some 47), (.mov (.t 2)), none⟩,
            ⟨(some 48), (.bin .rem .num (.t 47) (.k (.int .u8 4))), none⟩,
            ⟨(some 49), (.cvi .i64 (.t 48)), none⟩,
            ⟨(some 50), (.mkf (.method "Keys") [(.t 43)] []), none⟩,
            ⟨(some 51), (.nilck (.t 50)), none⟩,
            ⟨(some 52), (.mov (.t 43)), none⟩,
            ⟨(some 53), (.inv (.t 52) "Keys" [(.t 45), (.t 46), (.t 49)]), none⟩,
            ⟨(some 9), (.mov (.t 53)), none⟩] (.lin [] [(0, none), (1, none), (2, none), (3, none), (4, none), (5, none), (6, none), (7, none), (8, none), (9, none), (10, some []), (11, none)]))
          szEnd)))
def F3' : Fun :=
  ⟨71, 3, [.t 6],
    (.seq (.reg [⟨(some 3), (.box none (.t 0)), none⟩,
      ⟨(some 6), (.mov (.k (.bool false))), none⟩])
    (.seq (.seq (.reg [⟨(some 12), (.call (.k (.fn (.func 6) [] [])) []), none⟩,
      ⟨(some 13), (.un .not (.t 12)), none⟩])
    (.cond (.t 13)
      (.seq (.reg [⟨(some 6), (.mov (.k (.bool false))), none⟩])
      .ret)
      .skip))
    (.seq (.seq (.reg [⟨(some 14), (.mov (.t 1)), none⟩,
      ⟨(some 15), (.len .str (.t 14)), none⟩,
      ⟨(some 16), (.bin .gtr .num (.t 15) (.k (.int .i64 1000))), none⟩])
    (.cond (.t 16)
      (.seq (.reg [⟨(some 6), (.mov (.k (.bool true))), none⟩])
      .ret)
      .skip))
    (.seq (.seq (.reg [⟨(some 17), (.call (.k (.fn (.func 7) [] [])) []), none⟩,
      ⟨(some 18), (.call (.k (.fn (.func 9) [] [])) []), none⟩,
      ⟨(some 19), (.call (.k (.fn (.func 8) [] [])) [(.t 18)]), none⟩,
      ⟨(some 20), (.mks true 1 16 false [.nifc, .nifc] 2 [(0, (.t 17)), (1, (.t 19))]), none⟩,
      ⟨(some 21), (.len .slc (.t 20)), none⟩,
      ⟨(some 22), (.mov (.k (.int .i64 0))), none⟩])
    (.block 0
      (.loop
        (.seq (.reg [⟨(some 23), (.bin .lss .num (.t 22) (.t 21)), none⟩])
        (.seq (.cond (.t 23)
          .skip
          (.exit 0))
        (.seq (.block 1
          szRound)
        (.reg [⟨(some 70), (.bin .add .num (.t 22) (.k (.int .i64 1))), none⟩,
          ⟨(some 22), (.mov (.t 70)), none⟩])))))))
    (.seq (.reg [⟨(some 6), (.mov (.k (.bool true))), none⟩])
    .ret)))))⟩
theorem F3_eq : F3 = F3' := rfl
end Go.Proofs.YtfinnljkcgglfaaDoor
namespace Go.Proofs.YtfinnljkcgglfaaDoor
open Go Go.Vs Go.RowKit
set_option maxRecDepth 100000
set_option linter.unusedSimpArgs false
set_option linter.unusedVariables false
attribute [local simp] unV extV wanted strBin vpt vpn vmp nilV_ptr vic

theorem vLs_q' {x : X} {ops : List A} {L : List Nat} {Q : Ex → St → Prop} {i : Nat} {r : List (Nat × Option (List Nat))} {s : St} {d : Option Nat} {ins : I} {v : V} (hn : nth ops i = some ⟨d, ins, none⟩) (h : aop x s.t s.h ins = some (.val v s.h)) (k : vLs x ops L Q r { s with t := put s.t d v }) : vLs x ops L Q ((i, none) :: r) s := by
  simp only [vLs, hn, vLg, h, vLq, dstO]; exact ⟨trivial, k⟩
theorem vLs_w {x : X} {ops : List A} {L : List Nat} {Q : Ex → St → Prop} {i : Nat} {r : List (Nat × Option (List Nat))} {s : St} {d : Option Nat} {ins : I} {g : Nat × Bool} {v : V} (hn : nth ops i = some ⟨d, ins, some g⟩) (hw : wanted s.t (some g) = true) (h : aop x s.t s.h ins = some (.val v s.h)) (k : vLs x ops L Q r { s with t := put s.t d v }) : vLs x ops L Q ((i, none) :: r) s := by
  simp only [vLs, hn, vLg, hw, if_pos, h, vLq, dstO]; exact ⟨trivial, k⟩
theorem vLs_c {x : X} {ops : List A} {Q : Ex → St → Prop} {i : Nat} {re : List Nat} {r : List (Nat × Option (List Nat))} {t : Nat → V} {h : Hp} {d : Option Nat} {ins : I} {g : Option (Nat × Bool)} {f : FuncId} {args : List V} (hn : nth ops i = some ⟨d, ins, g⟩) (hw : wanted t g = true) (ha : aop x t h ins = some (.call f args))
    (hc : ACalls x f args h fun a h' => ∃ v, a = .ret v ∧ reL x ops re ⟨put t d v, h', []⟩ ∧ vLs x ops [] Q r ⟨put t d v, h', []⟩) : vLs x ops [] Q ((i, some re) :: r) ⟨t, h, []⟩ := by
  simp only [vLs, hn]
  rw [show nd ops [] i = [] from rfl]
  simp only [tell, vop, hw, if_pos, ha]
  refine hc.mono ?_
  rintro a h' ⟨v, rfl, h1, h2⟩
  exact ⟨h1, h2⟩
theorem reL_q {x : X} {ops : List A} {j : Nat} {re : List Nat} {s : St} {e : Nat} {ins : I} (hn : nth ops j = some ⟨some e, ins, none⟩) (h : aop x s.t s.h ins = some (.val (s.t e) s.h)) (k : reL x ops re s) : reL x ops (j :: re) s := by
  refine ⟨⟨e, by rw [hn]; rfl, ?_⟩, k⟩
  simp only [hn, vLg, h, vLq]; exact ⟨trivial, trivial⟩
theorem reL_w {x : X} {ops : List A} {j : Nat} {re : List Nat} {s : St} {e : Nat} {ins : I} {g : Nat × Bool} (hn : nth ops j = some ⟨some e, ins, some g⟩) (hw : wanted s.t (some g) = true) (h : aop x s.t s.h ins = some (.val (s.t e) s.h)) (k : reL x ops re s) : reL x ops (j :: re) s := by
  refine ⟨⟨e, by rw [hn]; rfl, ?_⟩, k⟩
  simp only [hn, vLg, hw, if_pos, h, vLq]; exact ⟨trivial, trivial⟩
theorem vblT : veq Vs.Q.bool (V.bool true) (V.bool true) = some true := rfl
theorem reL_nil (x : X) (ops : List A) (s : St) : reL x ops [] s := trivial

end Go.Proofs.YtfinnljkcgglfaaDoor
namespace Go.Proofs.YtfinnljkcgglfaaDoor
open Go Go.Vs Go.RowKit
set_option maxRecDepth 100000
set_option linter.unusedSimpArgs false
set_option linter.unusedVariables false
attribute [local simp] unV extV wanted strBin vpt vpn vmp nilV_ptr vic vsn

theorem lenV_t (h : Hp) (s : List UInt8) : lenV h .str (.str s) = some (.int .i64 s.length) := rfl
/-- What a round leaves. -/
def Kept (t t' : Nat → V) : Prop := t' 1 = t 1 ∧ t' 2 = t 2 ∧ t' 3 = t 3 ∧ t' 20 = t 20 ∧ t' 21 = t 21 ∧ t' 22 = t 22
def iE (t : Nat → V) (h : Hp) (lv : V) (q : Nat) (k : Nat) (st : St) : Prop := ∃ i, k + i = q ∧ st.d = [] ∧ st.h = h ∧ Kept t st.t ∧ st.t 60 = lv ∧ st.t 61 = .int .i64 q ∧ st.t 62 = .int .i64 i
theorem end_law {z : List V} {h : Hp} {t : Nat → V} {lv : V} {q n : Nat} {ys : List V} {Q : Ex → St → Prop} (hsl : Sl h 1 lv q ys) (hy : ∀ y ∈ ys, ∃ x : List UInt8, y = .str x ∧ x.length = 32) (t9 : t 9 = lv) (t2 : t 2 = .int .u8 n) (hq : q = n % 4) (K : ∀ t', Kept t t' → Q .normal ⟨t', h, []⟩) : vc (RX z) szEnd Q ⟨t, h, []⟩ := by
  have hl := hsl.len
  have hr : (n : Int).tmod 4 = (q : Int) := by subst hq; rfl
  have w : IntKind.i64.wrap (q : Int) = q := wrap64 (by omega) (by omega)
  have c1 : cviV .i64 (.int .u8 (q : Int)) = some (.int .i64 (q : Int)) := by simp only [cviV, w]
  unfold szEnd szIn
  simp [t9, t2, hl, hr, c1]
  refine vc_loop _ _ _ (iE t h lv q) q ⟨0, by simp, by simp, by simp, ⟨by simp, by simp [t2], by simp, by simp, by simp, by simp⟩, by simp, by simp, by simp⟩ ?_
  rintro k ⟨t', h', d⟩ ⟨i, hk, hd, hh, hK, t60, t61, t62⟩
  simp only at hd hh hK t60 t61 t62
  subst hd hh
  obtain ⟨k1, k2, k3, k20, k21, k22⟩ := hK
  by_cases hi : i < q
  · have hi' : (i : Int) < q := by omega
    have w1 : IntKind.i64.wrap ((i : Int) + 1) = (i : Int) + 1 := by rw [wrap64 (by omega) (by omega)]
    obtain ⟨p, hp1, hp2⟩ := hsl.at (k := .i64) hi
    have hyl : ys.length = q := by have := hsl.ylen; omega
    obtain ⟨x, hx, hxl⟩ := hy ys[i] (List.getElem_mem (by omega))
    have hp3 : rd h' p 1 = some [.str x] := by
      rw [hp2]
      have := sub_1 (l := ys) (i := i) (v := .str x) (by rw [List.getElem?_eq_getElem (by omega), hx])
      unfold sub at this
      split at this
      · simpa using this
      · cases this
    simp [t60, t61, t62, hi, hi', hp1, hp3, asV, lenV_t, hxl, w1]
    exact ⟨k - 1, by omega, i + 1, by omega, rfl, rfl, ⟨by simp [k1], by simp [k2], by simp [k3], by simp [k20], by simp [k21], by simp [k22]⟩, by simp [t60], by simp [t61], by simp⟩
  · have hiq : i = q := by omega
    subst hiq
    simp [t61, t62]
    exact K _ ⟨by simp [k1], by simp [k2], by simp [k3], by simp [k20], by simp [k21], by simp [k22]⟩
theorem strC_len {c : List V} {n : Nat} (h : isK .u8 n c = true) : (strC c).length = n := by simp [strC, isK_len h]
theorem nilF (z : List V) (m : String) (h : Hp) (f : FuncId) (o : Option Nat) (t : TypeId) (v : V) (hm : DX.M t m = some (f, o)) (ho : o = none ∨ ∃ k cs, o = some k ∧ v = .agg cs ∧ k < cs.length) : nilV (RX z) h (.fn (.method m) [.ifc t v] []) = some (.val (.fn (.method m) [.ifc t v] []) h) := by
  simp only [nilV]
  have : methNil (RX z) m [.ifc t v] = true := by
    simp only [methNil, show (RX z).M t m = some (f, o) from hm]
    rcases ho with rfl | ⟨k, cs, rfl, rfl, hk⟩
    · rfl
    · simp [hk]
  rw [this]; rfl
theorem mkfV {x : X} {t : Nat → V} {h : Hp} (f : Fn) (a b : List O) : aop x t h (.mkf f a b) = some (.val (.fn f (evs x t a) (evs x t b)) h) := rfl
theorem rKeys_sl {s b : List UInt8} {q : Nat} (hl : s.length = 32) (hq : q ≤ 3) (hb : b.length < 2 ^ 29) (h : Hp) : ∃ ys, Sl h 1 (rKeys s b q) q ys ∧ ∀ y ∈ ys, ∃ x : List UInt8, y = .str x ∧ x.length = 32 := by
  unfold rKeys
  by_cases h0 : q = 0
  · subst h0
    rw [if_neg (by omega)]
    exact ⟨[], ⟨rfl, rfl, trivial⟩, fun y hy => by cases hy⟩
  · rw [if_pos ⟨hl, by omega, by omega⟩, Int.toNat_natCast]
    have hok : KOk (kz s) (bytesV b) q := ⟨kz_is s, isB_bytes b, by simpa [bytesV] using hb, by omega, hq⟩
    obtain ⟨hs, _⟩ := kS_spec hok
    generalize kS (kz s) (bytesV b) q = ks at hs ⊢
    have h1 := flat_chunk (es := 1) (ag := false) (n := q) (l := kStrs ks q) (by rw [kStrs_len]; omega) (fun _ => rfl) (fun y hy => by obtain ⟨j, _, rfl⟩ := List.mem_map.1 hy; rfl) h
    rw [chunk_one q _ (kStrs_len ks q)] at h1
    refine ⟨kStrs ks q, h1, fun y hy => ?_⟩
    obtain ⟨j, hj, rfl⟩ := List.mem_map.1 hy
    exact ⟨_, rfl, strC_len (pcI_is hs (by simpa using hj))⟩
theorem sInv (z : List V) (m : String) (f : FuncId) (o : Nat) (hm : DX.M 54 m = some (f, some o)) (args : List V) (ho : o = 0 := by rfl) : invVV (RX z) m args (.ifc 54 (.agg [.ptr 3 0])) = some (.call f (.ptr 3 0 :: args)) := by
  subst ho
  simp only [invVV, show (RX z).M 54 m = some (f, some 0) from hm]
  rfl
theorem sInvN (z : List V) (m : String) (f : FuncId) (hm : DX.M 54 m = some (f, none)) (args : List V) : invVV (RX z) m args (.ifc 54 (.agg [.ptr 3 0])) = some (.call f (.agg [.ptr 3 0] :: args)) := by
  simp only [invVV, show (RX z).M 54 m = some (f, none) from hm]
theorem sKeys {h : Hp} {al : V} {ks : List (List UInt8)} {kc : List V} (L : LW h al ks kc) {a s : List UInt8} {q : Nat} (ha : a.length = 32) (hs : s.length ≤ 1000) (hk : ks.length < 900) (hq : q ≤ 3) : ACalls DX 106 [.agg [.ptr 3 0], .str a, .str s, .int .i64 q] h fun r h' => ∃ v ys, r = .ret v ∧ Sl h' 1 v q ys ∧ ∀ y ∈ ys, ∃ x : List UInt8, y = .str x ∧ x.length = 32 := by
  by_cases h0 : q = 0
  · subst h0
    refine (keys_early (.inl (by omega))).mono ?_
    rintro r h' ⟨rfl, rfl⟩
    exact ⟨.nsl, [], rfl, ⟨rfl, rfl, trivial⟩, fun y hy => by cases hy⟩
  · refine (symKeys_spec L (a := a) (b := s) (by omega) (by omega) hk (n := q) (by omega) hq).mono ?_
    intro r h' HK
    obtain ⟨v, al', ks', ix, rfl, W, hO, hix, hpos, hdis, hkl⟩ := HK
    refine ⟨v, _, rfl, hO.sl, fun y hy => ?_⟩
    obtain ⟨N, hN, rfl⟩ := List.mem_map.1 hy
    obtain ⟨i, hi, rfl⟩ := List.getElem_of_mem hN
    have hp := hpos i ix[i] (List.getElem?_eq_getElem hi)
    have := (pos_some hp).2
    refine ⟨_, rfl, nameB_len ?_⟩
    have hlt : ix[i] < ks'.length := by
      have h1 := (List.getElem?_eq_some_iff.1 (by simpa using this)).1
      exact h1
    omega
set_option maxHeartbeats 1000000 in
/-- A round of those of bytes. -/
theorem round_real {z : List V} {h : Hp} {t : Nat → V} {kc : List V} {s : List UInt8} {n : Nat} {sv : V} {Q : Ex → St → Prop} (hk : isK .u8 32 kc = true) (hs : s.length ≤ 1000) (h0 : hget h 0 = some (.cells kc none)) (t1 : t 1 = .str s) (t2 : t 2 = .int .u8 n) (t3 : t 3 = .ptr 0 0) (t20 : t 20 = .lst true [.ifc 52 (.agg []), sv]) (t22 : t 22 = .int .i64 0) (K : ∀ t', Kept t t' → Q .normal ⟨t', h, []⟩) : vc (RX z) szRound Q ⟨t, h, []⟩ := by
  have hl : (strC kc).length = 32 := strC_len hk
  obtain ⟨q, hq⟩ : ∃ q, q = n % 4 := ⟨_, rfl⟩
  have hr : (n : Int).tmod 4 = (q : Int) := by subst hq; rfl
  have w : IntKind.i64.wrap (q : Int) = q := wrap64 (by omega) (by omega)
  have c1 : cviV .i64 (.int .u8 (q : Int)) = some (.int .i64 (q : Int)) := by simp only [cviV, w]
  have sc : slcaVV h 32 1 false (.ptr 0 0) = some (.val (.sl 0 0 32 32 true 1 false) h) := slca_at h0 (isK_len hk)
  have sb : b2sV h (.sl 0 0 32 32 true 1 false) = some (.str (strC kc)) := b2s_sl h0 hk
  have ia : iadV 1 (.lst true [.ifc 52 (.agg []), sv]) (.int .i64 0) = some (.fp [.ifc 52 (.agg [])] 0) := by simp [iadV, V.cells]
  have rp : (rPub z (strC kc)).length = 32 := by unfold rPub; rw [if_pos hl]; exact strC_len (ladPub z (kz_is _)).1
  have rh : (rHash s s).length = 32 := strC_len (shaSum (ex := false) (isB_bytes (s ++ s)) (by simp [bytesV]; omega)).1
  have nfP := nilF z "Pub" h 78 none 52 (.agg []) rfl (.inl rfl)
  have nfK := nilF z "Keys" h 76 none 52 (.agg []) rfl (.inl rfl)
  unfold szRound
  simp [t20, t22, ia, rd_fp1, asV]
  refine vD_lin ?_
  have t8 : (put (put (put t (some 24) (.fp [.ifc 52 (.agg [])] 0)) (some 25) (.ifc 52 (.agg []))) (some 8) (.ifc 52 (.agg []))) 8 = .ifc 52 (.agg []) := by simp
  refine vLs_q' (v := .ifc 52 (.agg [])) rfl (by simp [t1, t2, t3, t8, t20, t22]) ?_
  refine vLs_q' (v := .sl 0 0 32 32 true 1 false) rfl (by simp [t1, t2, t3, t8, t20, t22, aop_slcaV, sc]) ?_
  refine vLs_q' (v := .str (strC kc)) rfl (by simp [t1, t2, t3, t8, t20, t22, sb]) ?_
  refine vLs_q' (v := .fn (.method "Pub") [.ifc 52 (.agg [])] []) rfl (by simp [t1, t2, t3, t8, t20, t22, mkfV]) ?_
  refine vLs_q' (v := .fn (.method "Pub") [.ifc 52 (.agg [])] []) rfl (by simp [t1, t2, t3, t8, t20, t22, nfP]) ?_
  refine vLs_q' (v := .ifc 52 (.agg [])) rfl (by simp [t1, t2, t3, t8, t20, t22]) ?_
  refine vLs_c rfl (by simp) (by simp [t1, t2, t3, aop_invV, rInv z "Pub" 78 rfl] <;> rfl) ((PCalls.at (RX.low z) (realPub z (strC kc)) (fun v hv => by simp at hv; rcases hv with rfl | rfl <;> first | exact .str _ | exact .agg _ (by simp)) _).mono ?_)
  rintro r h' ⟨rfl, rfl⟩
  refine ⟨_, rfl, reL_nil _ _ _, ?_⟩
  refine vLs_q' (v := .int .i64 32) rfl (by simp [t1, t2, t3, t8, t20, t22, lenV_t, rp]) ?_
  refine vLs_q' (v := .bool false) rfl (by simp [t1, t2, t3, t8, t20, t22]) ?_
  refine vLs_q' (v := .bool false) rfl (by simp [t1, t2, t3, t8, t20, t22]) ?_
  refine vLs_w (v := .ifc 52 (.agg [])) rfl (by simp) (by simp [t1, t2, t3, t8, t20, t22]) ?_
  refine vLs_w (v := .str s) rfl (by simp) (by simp [t1, t2, t3, t8, t20, t22]) ?_
  refine vLs_w (v := .str s) rfl (by simp) (by simp [t1, t2, t3, t8, t20, t22]) ?_
  refine vLs_c rfl (by simp) (by simp [t1, t2, t3, aop_invV, rInv z "Hash" 75 rfl] <;> rfl) ((PCalls.at (RX.low z) ((realHash (a := s) (b := s) (by omega)).up (RX.up z)) (fun v hv => by simp at hv; rcases hv with rfl | rfl <;> first | exact .str _ | exact .agg _ (by simp)) _).mono ?_)
  rintro r h' ⟨rfl, rfl⟩
  refine ⟨_, rfl, reL_nil _ _ _, ?_⟩
  refine vLs_w (v := .int .i64 32) rfl (by simp) (by simp [t1, t2, t3, t8, t20, t22, lenV_t, rh]) ?_
  refine vLs_w (v := .bool false) rfl (by simp) (by simp [t1, t2, t3, t8, t20, t22]) ?_
  refine vLs_q' (v := .bool false) rfl (by simp [t1, t2, t3, t8, t20, t22]) ?_
  simp only [vLs]
  simp
  refine vD_lin ?_
  refine vLs_q' (v := .ifc 52 (.agg [])) rfl (by simp [t1, t2, t3, t8, t20, t22]) ?_
  refine vLs_q' (v := .sl 0 0 32 32 true 1 false) rfl (by simp [t1, t2, t3, t8, t20, t22, aop_slcaV, sc]) ?_
  refine vLs_q' (v := .str (strC kc)) rfl (by simp [t1, t2, t3, t8, t20, t22, sb]) ?_
  refine vLs_q' (v := .str s) rfl (by simp [t1, t2, t3, t8, t20, t22]) ?_
  refine vLs_q' (v := .int .u8 n) rfl (by simp [t1, t2, t3, t8, t20, t22]) ?_
  refine vLs_q' (v := .int .u8 q) rfl (by simp [t1, t2, t3, t8, t20, t22, hr]) ?_
  refine vLs_q' (v := .int .i64 q) rfl (by simp [t1, t2, t3, t8, t20, t22, c1]) ?_
  refine vLs_q' (v := .fn (.method "Keys") [.ifc 52 (.agg [])] []) rfl (by simp [t1, t2, t3, t8, t20, t22, mkfV]) ?_
  refine vLs_q' (v := .fn (.method "Keys") [.ifc 52 (.agg [])] []) rfl (by simp [t1, t2, t3, t8, t20, t22, nfK]) ?_
  refine vLs_q' (v := .ifc 52 (.agg [])) rfl (by simp [t1, t2, t3, t8, t20, t22]) ?_
  obtain ⟨ys, hS, hY⟩ := rKeys_sl (b := s) hl (show q ≤ 3 by omega) (by omega) h'
  refine vLs_c rfl (by simp) (by simp [t1, t2, t3, aop_invV, rInv z "Keys" 76 rfl] <;> rfl) ((PCalls.at (RX.low z) ((realKeys (s := strC kc) (b := s) (q : Int) (by omega)).up (RX.up z)) (fun v hv => by simp at hv; rcases hv with rfl | rfl | rfl | rfl <;> first | exact .str _ | exact .int _ _ | exact .agg _ (by simp)) _).mono ?_)
  rintro r h' ⟨rfl, rfl⟩
  refine ⟨_, rfl, reL_nil _ _ _, ?_⟩
  refine vLs_q' (v := rKeys (strC kc) s q) rfl (by simp [t1, t2, t3, t8, t20, t22]) ?_
  simp only [vLs]
  simp
  exact end_law hS hY (by simp) (by simp [t2]) hq (fun t' hK => K t' (by
    obtain ⟨k1, k2, k3, k20, k21, k22⟩ := hK
    exact ⟨by simp [k1], by simp [k2], by simp [k3], by simp [k20], by simp [k21], by simp [k22]⟩))
set_option maxHeartbeats 1000000 in
/-- A round of those of terms. -/
theorem round_sym {z : List V} {h : Hp} {t : Nat → V} {kc : List V} {s : List UInt8} {n : Nat} {sv : V} {al : V} {ks : List (List UInt8)} {Q : Ex → St → Prop} (hk : isK .u8 32 kc = true) (hs : s.length ≤ 1000) (L : LW h al ks kc) (hks : ks.length < 800) (t1 : t 1 = .str s) (t2 : t 2 = .int .u8 n) (t3 : t 3 = .ptr 0 0) (t20 : t 20 = .lst true [sv, .ifc 54 (.agg [.ptr 3 0])]) (t22 : t 22 = .int .i64 1) (K : ∀ t' h', Kept t t' → Q .normal ⟨t', h', []⟩) : vc (RX z) szRound Q ⟨t, h, []⟩ := by
  have h0 := L.box
  have hl : (strC kc).length = 32 := strC_len hk
  obtain ⟨q, hq⟩ : ∃ q, q = n % 4 := ⟨_, rfl⟩
  have hr : (n : Int).tmod 4 = (q : Int) := by subst hq; rfl
  have w : IntKind.i64.wrap (q : Int) = q := wrap64 (by omega) (by omega)
  have c1 : cviV .i64 (.int .u8 (q : Int)) = some (.int .i64 (q : Int)) := by simp only [cviV, w]
  have sc : slcaVV h 32 1 false (.ptr 0 0) = some (.val (.sl 0 0 32 32 true 1 false) h) := slca_at h0 (isK_len hk)
  have sb : b2sV h (.sl 0 0 32 32 true 1 false) = some (.str (strC kc)) := b2s_sl h0 hk
  have ia : iadV 1 (.lst true [sv, .ifc 54 (.agg [.ptr 3 0])]) (.int .i64 1) = some (.fp [.ifc 54 (.agg [.ptr 3 0])] 0) := by simp [iadV, V.cells]
  have nfP := nilF z "Pub" h 53 (some 0) 54 (.agg [.ptr 3 0]) rfl (.inr ⟨0, _, rfl, rfl, by simp⟩)
  unfold szRound
  simp [t20, t22, ia, rd_fp1, asV]
  refine vD_lin ?_
  have t8 : (put (put (put t (some 24) (.fp [.ifc 54 (.agg [.ptr 3 0])] 0)) (some 25) (.ifc 54 (.agg [.ptr 3 0]))) (some 8) (.ifc 54 (.agg [.ptr 3 0]))) 8 = .ifc 54 (.agg [.ptr 3 0]) := by simp
  refine vLs_q' (v := .ifc 54 (.agg [.ptr 3 0])) rfl (by simp [t1, t2, t3, t8, t20, t22]) ?_
  refine vLs_q' (v := .sl 0 0 32 32 true 1 false) rfl (by simp [t1, t2, t3, t8, t20, t22, aop_slcaV, sc]) ?_
  refine vLs_q' (v := .str (strC kc)) rfl (by simp [t1, t2, t3, t8, t20, t22, sb]) ?_
  refine vLs_q' (v := .fn (.method "Pub") [.ifc 54 (.agg [.ptr 3 0])] []) rfl (by simp [t1, t2, t3, t8, t20, t22, mkfV]) ?_
  refine vLs_q' (v := .fn (.method "Pub") [.ifc 54 (.agg [.ptr 3 0])] []) rfl (by simp [t1, t2, t3, t8, t20, t22, nfP]) ?_
  refine vLs_q' (v := .ifc 54 (.agg [.ptr 3 0])) rfl (by simp [t1, t2, t3, t8, t20, t22]) ?_
  refine vLs_c rfl (by simp) (by simp [t1, t2, t3, aop_invV, sInv z "Pub" 53 0 rfl] <;> rfl) (((pub_spec L.tab (a := strC kc) (by omega) (by omega)).up (RX.up z)).mono ?_)
  intro r h1 H
  have H1 := L.put H
  obtain ⟨al1, rfl, L1, _⟩ := H1
  clear H
  have hN := putN_lt ks (joinB 2 [strC kc])
  have hl1 := putT_len ks (joinB 2 [strC kc])
  have rp : (nameB (putN ks (joinB 2 [strC kc]) + 1)).length = 32 := nameB_len (by omega)
  refine ⟨_, rfl, reL_nil _ _ _, ?_⟩
  refine vLs_q' (v := .int .i64 32) rfl (by simp [t1, t2, t3, t8, t20, t22, lenV_t, rp]) ?_
  refine vLs_q' (v := .bool false) rfl (by simp [t1, t2, t3, t8, t20, t22]) ?_
  refine vLs_q' (v := .bool false) rfl (by simp [t1, t2, t3, t8, t20, t22]) ?_
  refine vLs_w (v := .ifc 54 (.agg [.ptr 3 0])) rfl (by simp) (by simp [t1, t2, t3, t8, t20, t22]) ?_
  refine vLs_w (v := .str s) rfl (by simp) (by simp [t1, t2, t3, t8, t20, t22]) ?_
  refine vLs_w (v := .str s) rfl (by simp) (by simp [t1, t2, t3, t8, t20, t22]) ?_
  refine vLs_c rfl (by simp) (by simp [t1, t2, t3, aop_invV, sInvN z "Hash" 105 rfl] <;> rfl) (((symHash_spec L1 (a := s) (b := s) (by omega) (by omega) (by omega)).up (RX.up z)).mono ?_)
  intro r h2 H
  obtain ⟨al2, rfl, L2⟩ := H
  have hN2 := putN_lt (putT ks (joinB 2 [strC kc])) (joinB 4 [[104, 97, 115, 104], s, s])
  have hl2 := putT_len (putT ks (joinB 2 [strC kc])) (joinB 4 [[104, 97, 115, 104], s, s])
  have rh : (nameB (putN (putT ks (joinB 2 [strC kc])) (joinB 4 [[104, 97, 115, 104], s, s]) + 1)).length = 32 := nameB_len (by omega)
  have sc2 : slcaVV h2 32 1 false (.ptr 0 0) = some (.val (.sl 0 0 32 32 true 1 false) h2) := slca_at L2.box (isK_len hk)
  have sb2 : b2sV h2 (.sl 0 0 32 32 true 1 false) = some (.str (strC kc)) := b2s_sl L2.box hk
  have nfK := nilF z "Keys" h2 106 none 54 (.agg [.ptr 3 0]) rfl (.inl rfl)
  refine ⟨_, rfl, reL_nil _ _ _, ?_⟩
  refine vLs_w (v := .int .i64 32) rfl (by simp) (by simp [t1, t2, t3, t8, t20, t22, lenV_t, rh]) ?_
  refine vLs_w (v := .bool false) rfl (by simp) (by simp [t1, t2, t3, t8, t20, t22]) ?_
  refine vLs_q' (v := .bool false) rfl (by simp [t1, t2, t3, t8, t20, t22]) ?_
  simp only [vLs]
  simp
  refine vD_lin ?_
  refine vLs_q' (v := .ifc 54 (.agg [.ptr 3 0])) rfl (by simp [t1, t2, t3, t8, t20, t22]) ?_
  refine vLs_q' (v := .sl 0 0 32 32 true 1 false) rfl (by simp [t1, t2, t3, t8, t20, t22, aop_slcaV, sc2]) ?_
  refine vLs_q' (v := .str (strC kc)) rfl (by simp [t1, t2, t3, t8, t20, t22, sb2]) ?_
  refine vLs_q' (v := .str s) rfl (by simp [t1, t2, t3, t8, t20, t22]) ?_
  refine vLs_q' (v := .int .u8 n) rfl (by simp [t1, t2, t3, t8, t20, t22]) ?_
  refine vLs_q' (v := .int .u8 q) rfl (by simp [t1, t2, t3, t8, t20, t22, hr]) ?_
  refine vLs_q' (v := .int .i64 q) rfl (by simp [t1, t2, t3, t8, t20, t22, c1]) ?_
  refine vLs_q' (v := .fn (.method "Keys") [.ifc 54 (.agg [.ptr 3 0])] []) rfl (by simp [t1, t2, t3, t8, t20, t22, mkfV]) ?_
  refine vLs_q' (v := .fn (.method "Keys") [.ifc 54 (.agg [.ptr 3 0])] []) rfl (by simp [t1, t2, t3, t8, t20, t22, nfK]) ?_
  refine vLs_q' (v := .ifc 54 (.agg [.ptr 3 0])) rfl (by simp [t1, t2, t3, t8, t20, t22]) ?_
  refine vLs_c rfl (by simp) (by simp [t1, t2, t3, aop_invV, sInvN z "Keys" 106 rfl] <;> rfl) (((sKeys L2 (s := s) hl hs (by omega) (show q ≤ 3 by omega)).up (RX.up z)).mono ?_)
  intro r h3 H
  obtain ⟨v, ys, rfl, hS, hY⟩ := H
  refine ⟨_, rfl, reL_nil _ _ _, ?_⟩
  refine vLs_q' (v := v) rfl (by simp [t1, t2, t3, t8, t20, t22]) ?_
  simp only [vLs]
  simp
  exact end_law hS hY (by simp) (by simp [t2]) hq (fun t' hK => K t' h3 (by
    obtain ⟨k1, k2, k3, k20, k21, k22⟩ := hK
    exact ⟨by simp [k1], by simp [k2], by simp [k3], by simp [k20], by simp [k21], by simp [k22]⟩))
end Go.Proofs.YtfinnljkcgglfaaDoor
namespace Go.Proofs.YtfinnljkcgglfaaDoor
open Go Go.Vs Go.RowKit
set_option maxRecDepth 100000
set_option linter.unusedSimpArgs false
set_option linter.unusedVariables false
attribute [local simp] unV extV wanted strBin vpt vpn vmp nilV_ptr vic vsn

def iZ (kc : List V) (s : List UInt8) (n : Nat) (k : Nat) (st : St) : Prop := ∃ i, k + i = 2 ∧ st.d = [] ∧ st.t 1 = .str s ∧ st.t 2 = .int .u8 n ∧ st.t 3 = .ptr 0 0 ∧ st.t 20 = .lst true [.ifc 52 (.agg []), .ifc 54 (.agg [.ptr 3 0])] ∧ st.t 21 = .int .i64 2 ∧ st.t 22 = .int .i64 i ∧
  (i ≤ 1 → st.h = [some (.cells kc none), some (.map []), some (.map []), some (.cells [.map 1, .map 2, .nsl] none)])
theorem sizes_law {z kc : List V} {s : List UInt8} {n : Nat} (hk : isK .u8 32 kc = true) : PCalls (RX z) 3 [.agg kc, .str s, .int .u8 n] fun r => r = .ret (.bool true) := by
  refine PCalls.of (acall (RX.ok z) (show ckF (RX z).P 3 F3 = true from ck3) rfl ?_) fun r hr => by subst hr; exact .bool _
  have ho : (∀ c ∈ kc, c.one = true) = True := eq_true (one_of hk)
  simp only [F3_eq, F3']
  simp [V.cells, ho]
  refine (PCalls.at (RX.low z) (alive11.up (RX.up z)) (fun a ha => by cases ha) _).mono ?_
  rintro r h' ⟨rfl, rfl⟩
  by_cases hs : s.length ≤ 1000
  · have h1 : ¬ (1000 : Int) < s.length := by omega
    have h2 : ¬ 1000 < s.length := by omega
    have h3 : (s.length : Int) ≤ 1000 := by omega
    simp [lenV_t, h1, h2, h3, hs]
    refine (PCalls.at (RX.low z) (real6.up (RX.up z)) (fun a ha => by cases ha) _).mono ?_
    rintro r h' ⟨rfl, rfl⟩
    simp
    refine ((new_spec _).up (RX.up z)).mono ?_
    rintro r h' ⟨rfl, rfl⟩
    simp
    refine ((symbol_spec 3 _).up (RX.up z)).mono ?_
    rintro r h' ⟨rfl, rfl⟩
    have hl2 : ∀ h, lenV h .slc (.lst true [.ifc 52 (.agg []), .ifc 54 (.agg [.ptr 3 0])]) = some (.int .i64 2) := fun h => rfl
    simp [fillV, setAll, V.cells, V.one, chunk, hl2]
    refine vc_loop _ _ _ (iZ kc s n) 2 ⟨0, by simp, by simp, by simp, by simp, by simp, by simp, by simp, by simp, fun _ => rfl⟩ ?_
    rintro k ⟨t, h, d⟩ ⟨i, hki, hd, t1, t2, t3, t20, t21, t22, hh⟩
    simp only at hd t1 t2 t3 t20 t21 t22 hh
    subst hd
    by_cases hi : i < 2
    · have hi' : (i : Int) < 2 := by omega
      have hw1 : IntKind.i64.wrap (0 + 1) = 1 := rfl
      have hw2 : IntKind.i64.wrap (1 + 1) = 2 := rfl
      have hw1' : IntKind.i64.wrap 1 = 1 := rfl
      have hw2' : IntKind.i64.wrap 2 = 2 := rfl
      have hh := hh (by omega)
      subst hh
      rcases (show i = 0 ∨ i = 1 by omega) with rfl | rfl
      · simp [t21, t22]
        refine round_real (n := n) (s := s) (sv := .ifc 54 (.agg [.ptr 3 0])) hk hs rfl (by simp [t1]) (by simp [t2]) (by simp [t3]) (by simp [t20]) (by simp [t22]) fun t' hK => ?_
        obtain ⟨k1, k2, k3, k20, k21, k22⟩ := hK
        simp at k1 k2 k3 k20 k21 k22
        simp [k22, t22, hw1']
        exact ⟨k - 1, by omega, 1, by omega, rfl, by simp [k1, t1], by simp [k2, t2], by simp [k3, t3], by simp [k20, t20], by simp [k21, t21], by simp, fun _ => rfl⟩
      · simp [t21, t22]
        refine round_sym (n := n) (s := s) (sv := .ifc 52 (.agg [])) hk hs (LW0 kc) (by simp) (by simp [t1]) (by simp [t2]) (by simp [t3]) (by simp [t20]) (by simp [t22]) fun t' h2 hK => ?_
        obtain ⟨k1, k2, k3, k20, k21, k22⟩ := hK
        simp at k1 k2 k3 k20 k21 k22
        simp [k22, t22, hw2, hw2']
        exact ⟨k - 1, by omega, 2, by omega, rfl, by simp [k1, t1], by simp [k2, t2], by simp [k3, t3], by simp [k20, t20], by simp [k21, t21], by simp, fun h => absurd h (by omega)⟩
    · have hi2 : i = 2 := by omega
      subst hi2
      simp [t21, t22]
  · have h1 : (1000 : Int) < s.length := by omega
    have h2 : 1000 < s.length := by omega
    simp [lenV_t, h1, h2]
end Go.Proofs.YtfinnljkcgglfaaDoor
