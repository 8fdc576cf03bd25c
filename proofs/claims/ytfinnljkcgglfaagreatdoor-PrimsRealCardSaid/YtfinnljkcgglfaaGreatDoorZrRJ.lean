/- Keys of bytes. -/
import Derived.Test.YtfinnljkcgglfaaGreatDoorZrPJ
import Derived.Test.YtfinnljkcgglfaaGreatDoorZhFew
set_option linter.unusedSimpArgs false
set_option linter.unusedVariables false
namespace Go.Proofs.YtfinnljkcgglfaaGreatDoor
open Go Go.Vs Go.RowKit
set_option maxRecDepth 100000
set_option linter.unusedSimpArgs false
set_option linter.unusedVariables false
attribute [local simp] unV extV wanted strBin vpt vpn vmp nilV_ptr vic vsn

/-- What mac.Keys asks. -/
structure KOk (key bs : List V) (n : Nat) : Prop where
  k : isK .u8 32 key = true
  b : isB bs
  l : bs.length < 2 ^ 29
  h1 : 1 ≤ n
  h3 : n ≤ 3
open Classical in
noncomputable def kS (key bs : List V) (n : Nat) : List Int := if h : KOk key bs n then Classical.choose (keysK_ex h.k h.b h.l h.h1 h.h3) else []
theorem kS_spec {key bs : List V} {n : Nat} (h : KOk key bs n) : (kS key bs n).length = 32 * n ∧ PCalls GX 11 [.agg key, .lst false bs, .int .i64 n] fun r => r = .ret (.tup [keysVQ n (kS key bs n), .int .i64 0]) := by
  unfold kS; rw [dif_pos h]; exact Classical.choose_spec (keysK_ex h.k h.b h.l h.h1 h.h3)
/-- The i-th piece. -/
def pcI (s : List Int) (i : Nat) : List V := ((bytesI s).drop (i * 32)).take 32
theorem pcI_is {s : List Int} {n i : Nat} (hs : s.length = 32 * n) (hi : i < n) : isK .u8 32 (pcI s i) = true := isK_mk (by
  unfold pcI; rw [List.length_take, List.length_drop, bytesI_length, hs]; omega) fun v hv => by
  have := List.mem_of_mem_drop (List.mem_of_mem_take hv)
  obtain ⟨c, _, rfl⟩ := List.mem_map.1 this; exact ⟨_, rfl⟩
def kStrs (s : List Int) (n : Nat) : List V := (List.range n).map fun j => .str (strC (pcI s j))
theorem kStrs_len (s : List Int) (n : Nat) : (kStrs s n).length = n := by simp [kStrs]
theorem kStrs_succ (s : List Int) (n : Nat) : kStrs s (n + 1) = kStrs s n ++ [.str (strC (pcI s n))] := by simp [kStrs, List.range_succ]
theorem keysVQ_sl {s : List Int} {n : Nat} (hs : s.length = 32 * n) (h : Hp) : Sl h 32 (keysVQ n s) n (bytesI s) := flat_chunk (by rw [bytesI_length, hs]; omega) (fun e => by cases e) (bytesI_one s) h
theorem keysVQ_low {s : List Int} {n : Nat} (hs : s.length = 32 * n) : Low 0 (keysVQ n s) := Fz.low (fun h => keysVQ_sl hs h) (bytesI_low s)
def iK (s : List Int) (n : Nat) (k : Nat) (st : St) : Prop := ∃ i v, k + i = n ∧ st.d = [] ∧ st.t 35 = keysVQ n s ∧ st.t 36 = .int .i64 n ∧ st.t 37 = .int .i64 i ∧ st.t 13 = v ∧ 2 ≤ st.h.length ∧ Vs.Own st.h 2 1 false v i (kStrs s i)
noncomputable def rKeys (s b : List UInt8) (n : Int) : V := if s.length = 32 ∧ 1 ≤ n ∧ n ≤ 3 then .lst false (kStrs (kS (kz s) (bytesV b) n.toNat) n.toNat) else .nsl
theorem rk_ice {h : Hp} {s : List Int} {n : Nat} {v : V} (h1 : 1 ≤ n) (hO : Vs.Own h 2 1 false v n (kStrs s n)) : Ice h 0 v (.lst false (kStrs s n)) := by
  have hlen := kStrs_len s n
  have hs : ∀ y ∈ kStrs s n, ∃ z, y = .str z := fun y hy => by
    obtain ⟨j, _, rfl⟩ := List.mem_map.1 hy; exact ⟨_, rfl⟩
  obtain ⟨hl', ⟨rfl, hn⟩ | ⟨rfl, hn⟩ | ⟨b, cap, ex, rest, ty, rfl, hb, hg, hc, hce⟩⟩ := hO
  · omega
  · omega
  · have := Ice.sl (h := h) (k := 0) b 0 n cap ex 1 false _ ty (kStrs s n) (kStrs s n) (Nat.zero_le _) hg (by have := sub_all (kStrs s n) rest; rwa [hlen] at this) (fun _ => rfl) rfl (fun j x y hx hy => by
      rw [hx] at hy; cases hy
      obtain ⟨z, rfl⟩ := hs _ (List.mem_of_getElem? hx); exact .low _ (.str _)) (fun y hy => by obtain ⟨z, rfl⟩ := hs y hy; rfl)
    rwa [chunk_one n _ hlen] at this
set_option maxHeartbeats 1000000 in
theorem realKeys_run {s b : List UInt8} {n : Nat} (h : s.length = 32) (hb : b.length < 2 ^ 29) (h1 : 1 ≤ n) (h3 : n ≤ 3) : ACalls GX 114 [.agg [], .str s, .str b, .int .i64 n] [] fun r h' => ∃ v, r = .ret v ∧ Vs.Own h' 2 1 false v n (kStrs (kS (kz s) (bytesV b) n) n) := by
  have hok : KOk (kz s) (bytesV b) n := ⟨kz_is s, isB_bytes b, by simpa [bytesV] using hb, h1, h3⟩
  obtain ⟨hsl, hK⟩ := kS_spec hok
  generalize kS (kz s) (bytesV b) n = ks at hsl hK ⊢
  refine acall GX.ok ck114 rfl ?_
  simp [F114, V.cells]
  refine (PCalls.at GX.low (pkey_spec s) (fun v hv => by simp at hv; subst hv; exact .str _) _).mono ?_
  rintro r h' ⟨rfl, rfl⟩
  have s1 : ∀ A Z : List V, Z.length = 32 → ∀ c, isK .u8 32 c = true → stV [some (.cells A none), some (.cells Z none)] 32 (.ptr 1 0) (.agg c) = some (.skip [some (.cells A none), some (.cells c none)]) := fun A Z hZ c hc => by rw [stB32 rfl hZ hc]; rfl
  have r1 : ∀ A : List V, rd [some (.cells A none), some (.cells (kz s) none)] (.ptr 1 0) 32 = some (kz s) := fun A => rd_allc rfl (isK_len (kz_is s))
  simp [s1, kz_is, r1, asV, s2b_t, h]
  refine (PCalls.at GX.low hK (fun v hv => by
    simp at hv; rcases hv with rfl | rfl | rfl
    · exact low_agg (kz_is s)
    · exact lowB (isB_bytes b) _
    · exact .int _ _) _).mono ?_
  rintro r h' ⟨rfl, rfl⟩
  have ln := (keysVQ_sl hsl [some (.cells [] none), some (.cells (kz s) none)]).len
  simp [ln]
  refine vc_loop _ _ _ (iK ks n) n ⟨0, .nsl, by simp, by simp, by simp, by simp, by simp, by simp, by simp, ⟨rfl, .inl ⟨rfl, rfl⟩⟩⟩ ?_
  rintro k ⟨t, h2, d⟩ ⟨i, v, hk, hd, t35, t36, t37, t13, hL, hO⟩
  simp only at hd t35 t36 t37 t13 hL hO
  subst hd
  by_cases hi : i < n
  · have hi' : (i : Int) < n := by omega
    have w1 : IntKind.i64.wrap ((i : Int) + 1) = (i : Int) + 1 := by rw [wrap64 (by omega) (by omega)]
    obtain ⟨p, hp1, hp2⟩ := (keysVQ_sl hsl h2).at (k := .i64) hi
    have hpc := pcI_is hsl hi
    have hp2 : rd h2 p 32 = some (pcI ks i) := hp2
    have sN : ∀ Z : List V, Z.length = 32 → stV (h2 ++ [some (.cells Z none)]) 32 (.ptr h2.length 0) (.agg (pcI ks i)) = some (.skip (h2 ++ [some (.cells (pcI ks i) none)])) := fun Z hZ => by
      rw [stB32 (hget_new _ _) hZ hpc]; simp
    have sc : slcaVV (h2 ++ [some (.cells (pcI ks i) none)]) 32 1 false (.ptr h2.length 0) = some (.val (.sl h2.length 0 32 32 true 1 false) (h2 ++ [some (.cells (pcI ks i) none)])) := slca_at (hget_new _ _) (isK_len hpc)
    have sb : b2sV (h2 ++ [some (.cells (pcI ks i) none)]) (.sl h2.length 0 32 32 true 1 false) = some (.str (strC (pcI ks i))) := b2s_sl (hget_new _ _) hpc
    have hO2 := hO.push [some (.cells (pcI ks i) none)]
    obtain ⟨v', h4, a1, a2, a3, a4, a5, a6⟩ := Own.app (h := h2 ++ [some (.cells (pcI ks i) none)]) (k := 2) (es := 1) (bt := 16) (ag := false) (ty := none) (v := v) (a := .lst true [.str (strC (pcI ks i))]) (m := 1) (zs := [.str (strC (pcI ks i))]) (by simp; omega) hO2 (by simp [src, flat, V.cells]) rfl (by unfold room; omega)
    simp [t37, t36, hi, hi', t35, hp1, hp2, asV, sN, aop_slcaV, sc, sb, fillV, setAll, V.cells, V.one, chunk, t13, a1, w1]
    refine ⟨k - 1, by omega, i + 1, v', by omega, rfl, by simp [t35], by simp [t36], by simp, by simp, ?_, ?_⟩
    · have := a6; simp at this; show 2 ≤ h4.length; omega
    · rw [kStrs_succ]; exact a2
  · have hin : i = n := by omega
    subst hin
    simp [t37, t36, t13]
    exact hO
end Go.Proofs.YtfinnljkcgglfaaGreatDoor
namespace Go.Proofs.YtfinnljkcgglfaaGreatDoor
open Go Go.Vs Go.RowKit
set_option maxRecDepth 100000
set_option linter.unusedSimpArgs false
set_option linter.unusedVariables false
attribute [local simp] unV extV wanted strBin vpt vpn vmp nilV_ptr vic vsn
/-- What mac.Keys comes to, of whatever number. -/
noncomputable def mkR (key bs : List V) (n : Int) : V := if 1 ≤ n ∧ n ≤ 3 then keysVQ n.toNat (kS key bs n.toNat) else .nsl
def mkE (n : Int) : Int := if 1 ≤ n ∧ n ≤ 3 then 0 else 2
theorem macKeys {key bs : List V} (n : Int) (hk : isK .u8 32 key = true) (hB : isB bs) (hl : bs.length < 2 ^ 29) : Low 0 (mkR key bs n) ∧ PCalls GX 11 [.agg key, .lst false bs, .int .i64 n] fun r => r = .ret (.tup [mkR key bs n, .int .i64 (mkE n)]) := by
  unfold mkR mkE
  by_cases hn : 1 ≤ n ∧ n ≤ 3
  · obtain ⟨m, rfl⟩ : ∃ m : Nat, n = m := ⟨n.toNat, by omega⟩
    have hok : KOk key bs m := ⟨hk, hB, hl, by omega, by omega⟩
    obtain ⟨h1, h2⟩ := kS_spec hok
    rw [if_pos hn, if_pos hn, Int.toNat_natCast]
    exact ⟨keysVQ_low h1, h2⟩
  · rw [if_neg hn, if_neg hn]
    exact ⟨.nsl, keys_err hk (by omega)⟩
theorem realKeys {s b : List UInt8} (n : Int) (hb : b.length < 2 ^ 29) : PCalls GX 114 [.agg [], .str s, .str b, .int .i64 n] fun r => r = .ret (rKeys s b n) := by
  by_cases hc : s.length = 32 ∧ 1 ≤ n ∧ n ≤ 3
  · obtain ⟨m, rfl⟩ : ∃ m : Nat, n = m := ⟨n.toNat, by omega⟩
    have := realKeys_run (s := s) (b := b) (n := m) hc.1 hb (by omega) (by omega)
    refine this.ice ?_
    rintro r h' ⟨v, rfl, hO⟩
    refine ⟨Nat.zero_le _, LowH.zero _, .ret (rKeys s b m), ?_, rfl, by simp⟩
    unfold rKeys
    rw [if_pos hc, Int.toNat_natCast]
    exact rk_ice (by omega) hO
  · have hr : rKeys s b n = .nsl := by unfold rKeys; rw [if_neg hc]
    rw [hr]
    refine PCalls.of (acall GX.ok ck114 rfl ?_) fun r hr => by subst hr; exact .nsl
    obtain ⟨hlw, hK⟩ := macKeys n (kz_is s) (isB_bytes b) (by simpa [bytesV] using hb)
    simp [F114, V.cells]
    refine (PCalls.at GX.low (pkey_spec s) (fun v hv => by simp at hv; subst hv; exact .str _) _).mono ?_
    rintro r h' ⟨rfl, rfl⟩
    have s1 : ∀ A Z : List V, Z.length = 32 → ∀ c, isK .u8 32 c = true → stV [some (.cells A none), some (.cells Z none)] 32 (.ptr 1 0) (.agg c) = some (.skip [some (.cells A none), some (.cells c none)]) := fun A Z hZ c hc => by rw [stB32 rfl hZ hc]; rfl
    have r1 : ∀ A : List V, rd [some (.cells A none), some (.cells (kz s) none)] (.ptr 1 0) 32 = some (kz s) := fun A => rd_allc rfl (isK_len (kz_is s))
    simp [s1, kz_is, r1, asV, s2b_t]
    refine (PCalls.at GX.low hK (fun v hv => by
      simp at hv; rcases hv with rfl | rfl | rfl
      · exact low_agg (kz_is s)
      · exact lowB (isB_bytes b) _
      · exact .int _ _) _).mono ?_
    rintro r h' ⟨rfl, rfl⟩
    by_cases h : s.length = 32
    · have hm : mkE n = 2 := by unfold mkE; rw [if_neg (fun hh => hc ⟨h, hh⟩)]
      simp [h, hm]
    · simp [h]
theorem rKeys_low (s b : List UInt8) (n : Int) : Low 0 (rKeys s b n) := by
  unfold rKeys; split
  · refine .lst _ _ fun c hc => ?_
    unfold flat at hc
    obtain ⟨y, hy, hc⟩ := List.mem_flatMap.1 hc
    obtain ⟨j, _, rfl⟩ := List.mem_map.1 hy
    simp [V.cells] at hc; subst hc; exact .str _
  · exact .nsl
theorem real6 : PCalls GX 6 [] fun r => r = .ret (.ifc 57 (.agg [])) := by
  refine PCalls.of (acall GX.ok ck6 rfl ?_) fun r hr => by subst hr; exact .ifc _ _ (.agg _ (by simp))
  simp [F6, fillV]
theorem rInv (m : String) (f : FuncId) (hm : GX.M 57 m = some (f, none)) (args : List V) : invVV RX m args (.ifc 57 (.agg [])) = some (.call f (.agg [] :: args)) := by
  simp only [invVV]
  rw [show RX.M 57 m = some (f, none) from hm]
end Go.Proofs.YtfinnljkcgglfaaGreatDoor
namespace Go.Proofs.YtfinnljkcgglfaaGreatDoor
open Go Go.Vs Go.RowKit
set_option maxRecDepth 100000
def realC4 : C := (.seq (.reg [⟨(some 130), (.fad 0 (.t 2)), none⟩,
      ⟨(some 131), (.load 1 false (.t 130)), none⟩,
      ⟨(some 132), (.fad 1 (.t 2)), none⟩,
      ⟨(some 133), (.load 1 false (.t 132)), none⟩,
      ⟨(some 134), (.bin .add .str (.t 131) (.t 133)), none⟩,
      ⟨(some 135), (.s2b true (.t 134)), none⟩,
      ⟨(some 136), (.call (.k (.fn (.func 12) [] [])) [(.t 135)]), none⟩,
      ⟨(some 21), (.new [(.int .u8 0), (.int .u8 0), (.int .u8 0), (.int .u8 0), (.int .u8 0), (.int .u8 0), (.int .u8 0), (.int .u8 0), (.int .u8 0), (.int .u8 0), (.int .u8 0), (.int .u8 0), (.int .u8 0), (.int .u8 0), (.int .u8 0), (.int .u8 0), (.int .u8 0), (.int .u8 0), (.int .u8 0), (.int .u8 0), (.int .u8 0), (.int .u8 0), (.int .u8 0), (.int .u8 0), (.int .u8 0), (.int .u8 0), (.int .u8 0), (.int .u8 0), (.int .u8 0), (.int .u8 0), (.int .u8 0), (.int .u8 0)] none), none⟩,
      ⟨none, (.store 32 (.t 21) (.t 136)), none⟩])
    (.seq (.dreg [⟨(some 137), (.mov (.t 5)), none⟩,
      ⟨(some 138), (.fad 0 (.t 2)), none⟩,
      ⟨(some 139), (.load 1 false (.t 138)), none⟩,
      ⟨(some 140), (.fad 1 (.t 2)), none⟩,
      ⟨(some 141), (.load 1 false (.t 140)), none⟩,
      ⟨(some 142), (.inv (.t 137) "Hash" [(.t 139), (.t 141)]), none⟩,
      ⟨(some 143), (.slca 32 1 false (.t 21) none none none), none⟩,
      ⟨(some 144), (.b2s (.t 143)), none⟩,
      ⟨(some 145), (.bin .eql .str (.t 142) (.t 144)), none⟩,
      ⟨(some 4), (.mov (.t 145)), none⟩] (.lin [] [(0, none), (1, none), (2, none), (3, none), (4, none), (6, none), (7, none), (5, some [6, 7]), (8, none), (9, none)]))
    .ret))
def realC3 : C := (.seq (.reg [⟨(some 88), (.load 32 true (.t 6)), none⟩,
      ⟨(some 89), (.fad 4 (.t 2)), none⟩,
      ⟨(some 90), (.load 1 false (.t 89)), none⟩,
      ⟨(some 91), (.s2b true (.t 90)), none⟩,
      ⟨(some 92), (.mov (.t 1)), none⟩,
      ⟨(some 93), (.call (.k (.fn (.func 11) [] [])) [(.t 88), (.t 91), (.t 92)]), none⟩,
      ⟨(some 87), (.mov (.t 93)), none⟩,
      ⟨(some 94), (.ext (.t 87) 0), none⟩,
      ⟨(some 95), (.ext (.t 87) 1), none⟩,
      ⟨(some 17), (.mov (.t 94)), none⟩,
      ⟨(some 18), (.mov (.t 95)), none⟩])
    (.seq (.reg [⟨(some 96), (.mov (.t 5)), none⟩,
      ⟨(some 97), (.fad 0 (.t 2)), none⟩,
      ⟨(some 98), (.load 1 false (.t 97)), none⟩,
      ⟨(some 99), (.fad 4 (.t 2)), none⟩,
      ⟨(some 100), (.load 1 false (.t 99)), none⟩,
      ⟨(some 101), (.mov (.t 1)), none⟩,
      ⟨(some 102), (.inv (.t 96) "Keys" [(.t 98), (.t 100), (.t 101)]), none⟩,
      ⟨(some 19), (.mov (.t 102)), none⟩])
    (.seq (.seq (.reg [⟨(some 103), (.mov (.t 7)), none⟩,
      ⟨(some 104), (.un .not (.t 103)), none⟩,
      ⟨(some 105), (.mov (.t 104)), none⟩,
      ⟨(some 106), (.mov (.t 18)), some (105, false)⟩,
      ⟨(some 107), (.bin .neq .num (.t 106) (.k (.int .i64 0))), some (105, false)⟩,
      ⟨(some 108), (.pick (.t 105) (.k (.bool true)) (.t 107)), none⟩])
    (.cond (.t 108)
      (.reg [⟨(some 17), (.mov (.k .nsl)), none⟩])
      .skip))
    (.seq (.seq (.reg [⟨(some 109), (.mov (.t 19)), none⟩,
      ⟨(some 110), (.len .slc (.t 109)), none⟩,
      ⟨(some 111), (.mov (.t 17)), none⟩,
      ⟨(some 112), (.len .slc (.t 111)), none⟩,
      ⟨(some 113), (.bin .neq .num (.t 110) (.t 112)), none⟩])
    (.cond (.t 113)
      (.seq (.reg [⟨(some 4), (.mov (.k (.bool false))), none⟩])
      .ret)
      .skip))
    (.seq (.seq (.reg [⟨(some 114), (.mov (.t 19)), none⟩,
      ⟨(some 115), (.len .slc (.t 114)), none⟩,
      ⟨(some 116), (.mov (.k (.int .i64 0))), none⟩])
    (.block 0
      (.loop
        (.seq (.reg [⟨(some 117), (.bin .lss .num (.t 116) (.t 115)), none⟩])
        (.seq (.cond (.t 117)
          .skip
          (.exit 0))
        (.seq (.block 1
          (.seq (.reg [⟨(some 118), (.mov (.t 116)), none⟩,
            ⟨(some 20), (.mov (.t 118)), none⟩])
          (.seq (.dreg [⟨(some 119), (.mov (.t 19)), none⟩,
            ⟨(some 120), (.mov (.t 20)), none⟩,
            ⟨(some 121), (.iad 1 (.t 119) (.t 120)), none⟩,
            ⟨(some 122), (.load 1 false (.t 121)), none⟩,
            ⟨(some 123), (.mov (.t 17)), none⟩,
            ⟨(some 124), (.mov (.t 20)), none⟩,
            ⟨(some 125), (.iad 32 (.t 123) (.t 124)), none⟩,
            ⟨(some 126), (.slca 32 1 false (.t 125) none none none), none⟩,
            ⟨(some 127), (.b2s (.t 126)), none⟩,
            ⟨(some 128), (.bin .neq .str (.t 122) (.t 127)), none⟩] (.lin [] [(0, none), (1, none), (2, none), (3, none), (4, none), (5, none), (6, none), (7, none), (8, none), (9, none)]))
          (.cond (.t 128)
            (.seq (.reg [⟨(some 4), (.mov (.k (.bool false))), none⟩])
            .ret)
            .skip))))
        (.reg [⟨(some 129), (.bin .add .num (.t 116) (.k (.int .i64 1))), none⟩,
          ⟨(some 116), (.mov (.t 129)), none⟩])))))))
    realC4)))))
def realC2 : C := (.seq (.reg [⟨(some 10), (.mov (.k (.str []))), none⟩,
      ⟨(some 12), (.mov (.k (.bool false))), none⟩])
    (.seq (.seq (.reg [⟨(some 57), (.mov (.t 7)), none⟩,
      ⟨(some 58), (.mov (.t 57)), none⟩,
      ⟨(some 59), (.mov (.t 9)), some (58, true)⟩,
      ⟨(some 60), (.pick (.t 58) (.t 59) (.k (.bool false))), none⟩])
    (.cond (.t 60)
      (.seq (.reg [⟨(some 62), (.load 32 true (.t 6)), none⟩,
        ⟨(some 63), (.load 32 true (.t 8)), none⟩,
        ⟨(some 64), (.call (.k (.fn (.func 10) [] [])) [(.t 62), (.t 63)]), none⟩,
        ⟨(some 61), (.mov (.t 64)), none⟩,
        ⟨(some 65), (.ext (.t 61) 0), none⟩,
        ⟨(some 66), (.ext (.t 61) 1), none⟩,
        ⟨(some 13), (.new [(.int .u8 0), (.int .u8 0), (.int .u8 0), (.int .u8 0), (.int .u8 0), (.int .u8 0), (.int .u8 0), (.int .u8 0), (.int .u8 0), (.int .u8 0), (.int .u8 0), (.int .u8 0), (.int .u8 0), (.int .u8 0), (.int .u8 0), (.int .u8 0), (.int .u8 0), (.int .u8 0), (.int .u8 0), (.int .u8 0), (.int .u8 0), (.int .u8 0), (.int .u8 0), (.int .u8 0), (.int .u8 0), (.int .u8 0), (.int .u8 0), (.int .u8 0), (.int .u8 0), (.int .u8 0), (.int .u8 0), (.int .u8 0)] none), none⟩,
        ⟨none, (.store 32 (.t 13) (.t 65)), none⟩,
        ⟨(some 14), (.mov (.t 66)), none⟩])
      (.seq (.reg [⟨(some 67), (.mov (.t 14)), none⟩])
      (.cond (.t 67)
        (.reg [⟨(some 68), (.slca 32 1 false (.t 13) none none none), none⟩,
          ⟨(some 69), (.b2s (.t 68)), none⟩,
          ⟨(some 10), (.mov (.t 69)), none⟩,
          ⟨(some 12), (.mov (.k (.bool true))), none⟩])
        .skip)))
      .skip))
    (.seq (.seq (.reg [⟨(some 71), (.mov (.t 5)), none⟩,
      ⟨(some 72), (.fad 0 (.t 2)), none⟩,
      ⟨(some 73), (.load 1 false (.t 72)), none⟩,
      ⟨(some 74), (.fad 1 (.t 2)), none⟩,
      ⟨(some 75), (.load 1 false (.t 74)), none⟩,
      ⟨(some 76), (.inv (.t 71) "Dh" [(.t 73), (.t 75)]), none⟩,
      ⟨(some 70), (.mov (.t 76)), none⟩,
      ⟨(some 77), (.ext (.t 70) 0), none⟩,
      ⟨(some 78), (.ext (.t 70) 1), none⟩,
      ⟨(some 15), (.mov (.t 77)), none⟩,
      ⟨(some 16), (.mov (.t 78)), none⟩])
    (.seq (.reg [⟨(some 79), (.mov (.t 15)), none⟩,
      ⟨(some 80), (.mov (.t 10)), none⟩,
      ⟨(some 81), (.bin .neq .str (.t 79) (.t 80)), none⟩,
      ⟨(some 82), (.mov (.t 81)), none⟩,
      ⟨(some 83), (.mov (.t 16)), some (82, false)⟩,
      ⟨(some 84), (.mov (.t 12)), some (82, false)⟩,
      ⟨(some 85), (.bin .neq .bool (.t 83) (.t 84)), some (82, false)⟩,
      ⟨(some 86), (.pick (.t 82) (.k (.bool true)) (.t 85)), none⟩])
    (.cond (.t 86)
      (.seq (.reg [⟨(some 4), (.mov (.k (.bool false))), none⟩])
      .ret)
      .skip)))
    realC3)))
def realC1 : C := (.seq (.reg [⟨(some 10), (.mov (.k (.str []))), none⟩])
    (.seq (.seq (.reg [⟨(some 46), (.mov (.t 7)), none⟩])
    (.cond (.t 46)
      (.seq (.reg [⟨(some 47), (.load 32 true (.t 6)), none⟩,
        ⟨(some 48), (.call (.k (.fn (.func 9) [] [])) [(.t 47)]), none⟩,
        ⟨(some 11), (.new [(.int .u8 0), (.int .u8 0), (.int .u8 0), (.int .u8 0), (.int .u8 0), (.int .u8 0), (.int .u8 0), (.int .u8 0), (.int .u8 0), (.int .u8 0), (.int .u8 0), (.int .u8 0), (.int .u8 0), (.int .u8 0), (.int .u8 0), (.int .u8 0), (.int .u8 0), (.int .u8 0), (.int .u8 0), (.int .u8 0), (.int .u8 0), (.int .u8 0), (.int .u8 0), (.int .u8 0), (.int .u8 0), (.int .u8 0), (.int .u8 0), (.int .u8 0), (.int .u8 0), (.int .u8 0), (.int .u8 0), (.int .u8 0)] none), none⟩,
        ⟨none, (.store 32 (.t 11) (.t 48)), none⟩])
      (.reg [⟨(some 49), (.slca 32 1 false (.t 11) none none none), none⟩,
        ⟨(some 50), (.b2s (.t 49)), none⟩,
        ⟨(some 10), (.mov (.t 50)), none⟩]))
      .skip))
    (.seq (.seq (.reg [⟨(some 51), (.mov (.t 5)), none⟩,
      ⟨(some 52), (.fad 0 (.t 2)), none⟩,
      ⟨(some 53), (.load 1 false (.t 52)), none⟩,
      ⟨(some 54), (.inv (.t 51) "Pub" [(.t 53)]), none⟩,
      ⟨(some 55), (.mov (.t 10)), none⟩,
      ⟨(some 56), (.bin .neq .str (.t 54) (.t 55)), none⟩])
    (.cond (.t 56)
      (.seq (.reg [⟨(some 4), (.mov (.k (.bool false))), none⟩])
      .ret)
      .skip))
    realC2)))
def F3' : Fun :=
  ⟨146, 2, [.t 4],
    (.seq (.reg [⟨(some 2), (.box none (.t 0)), none⟩,
      ⟨(some 4), (.mov (.k (.bool false))), none⟩])
    (.seq (.seq (.reg [⟨(some 22), (.call (.k (.fn (.func 5) [] [])) []), none⟩,
      ⟨(some 23), (.un .not (.t 22)), none⟩])
    (.cond (.t 23)
      (.seq (.reg [⟨(some 4), (.mov (.k (.bool false))), none⟩])
      .ret)
      .skip))
    (.seq (.reg [⟨(some 24), (.call (.k (.fn (.func 6) [] [])) []), none⟩,
      ⟨(some 5), (.mov (.t 24)), none⟩])
    (.seq (.seq (.reg [⟨(some 25), (.mov (.t 5)), none⟩,
      ⟨(some 26), (.bin .eql .ifc (.t 25) (.k .nifc)), none⟩,
      ⟨(some 27), (.mov (.t 26)), none⟩,
      ⟨(some 28), (.load 5 true (.t 2)), some (27, false)⟩,
      ⟨(some 29), (.call (.k (.fn (.func 7) [] [])) [(.t 28)]), some (27, false)⟩,
      ⟨(some 30), (.un .not (.t 29)), some (27, false)⟩,
      ⟨(some 31), (.pick (.t 27) (.k (.bool true)) (.t 30)), none⟩])
    (.cond (.t 31)
      (.seq (.reg [⟨(some 32), (.mov (.t 5)), none⟩,
        ⟨(some 33), (.bin .neq .ifc (.t 32) (.k .nifc)), none⟩,
        ⟨(some 4), (.mov (.t 33)), none⟩])
      .ret)
      .skip))
    (.seq (.reg [⟨(some 35), (.fad 0 (.t 2)), none⟩,
      ⟨(some 36), (.load 1 false (.t 35)), none⟩,
      ⟨(some 37), (.call (.k (.fn (.func 8) [] [])) [(.t 36)]), none⟩,
      ⟨(some 34), (.mov (.t 37)), none⟩,
      ⟨(some 38), (.ext (.t 34) 0), none⟩,
      ⟨(some 39), (.ext (.t 34) 1), none⟩,
      ⟨(some 6), (.new [(.int .u8 0), (.int .u8 0), (.int .u8 0), (.int .u8 0), (.int .u8 0), (.int .u8 0), (.int .u8 0), (.int .u8 0), (.int .u8 0), (.int .u8 0), (.int .u8 0), (.int .u8 0), (.int .u8 0), (.int .u8 0), (.int .u8 0), (.int .u8 0), (.int .u8 0), (.int .u8 0), (.int .u8 0), (.int .u8 0), (.int .u8 0), (.int .u8 0), (.int .u8 0), (.int .u8 0), (.int .u8 0), (.int .u8 0), (.int .u8 0), (.int .u8 0), (.int .u8 0), (.int .u8 0), (.int .u8 0), (.int .u8 0)] none), none⟩,
      ⟨none, (.store 32 (.t 6) (.t 38)), none⟩,
      ⟨(some 7), (.mov (.t 39)), none⟩])
    (.seq (.reg [⟨(some 41), (.fad 1 (.t 2)), none⟩,
      ⟨(some 42), (.load 1 false (.t 41)), none⟩,
      ⟨(some 43), (.call (.k (.fn (.func 8) [] [])) [(.t 42)]), none⟩,
      ⟨(some 40), (.mov (.t 43)), none⟩,
      ⟨(some 44), (.ext (.t 40) 0), none⟩,
      ⟨(some 45), (.ext (.t 40) 1), none⟩,
      ⟨(some 8), (.new [(.int .u8 0), (.int .u8 0), (.int .u8 0), (.int .u8 0), (.int .u8 0), (.int .u8 0), (.int .u8 0), (.int .u8 0), (.int .u8 0), (.int .u8 0), (.int .u8 0), (.int .u8 0), (.int .u8 0), (.int .u8 0), (.int .u8 0), (.int .u8 0), (.int .u8 0), (.int .u8 0), (.int .u8 0), (.int .u8 0), (.int .u8 0), (.int .u8 0), (.int .u8 0), (.int .u8 0), (.int .u8 0), (.int .u8 0), (.int .u8 0), (.int .u8 0), (.int .u8 0), (.int .u8 0), (.int .u8 0), (.int .u8 0)] none), none⟩,
      ⟨none, (.store 32 (.t 8) (.t 44)), none⟩,
      ⟨(some 9), (.mov (.t 45)), none⟩])
    realC1))))))⟩
theorem F3_eq : F3 = F3' := rfl
end Go.Proofs.YtfinnljkcgglfaaGreatDoor
namespace Go.Proofs.YtfinnljkcgglfaaGreatDoor
open Go Go.Vs Go.RowKit
set_option maxRecDepth 100000
set_option linter.unusedSimpArgs false
set_option linter.unusedVariables false
attribute [local simp] unV extV wanted strBin vpt vpn vmp nilV_ptr vic vsn

theorem lenV_nsl' (h : Hp) : lenV h .slc .nsl = some (.int .i64 0) := rfl
theorem rdX {h : Hp} {A B : List UInt8} {N : Nat} {Ad X : List UInt8} (h0 : hget h 0 = some (.cells (twoV A B N Ad X) none)) : rd h (.ptr 0 0) 1 = some [.str A] ∧ rd h (.ptr 0 1) 1 = some [.str B] ∧ rd h (.ptr 0 4) 1 = some [.str X] := by
  refine ⟨?_, ?_, ?_⟩ <;> (rw [rd_cell h0]; rfl)
theorem law4 {h : Hp} {t : Nat → V} {A B : List UInt8} {N : Nat} {Ad X : List UInt8} (hA : A.length ≤ 1000) (hB : B.length ≤ 1000) (h0 : hget h 0 = some (.cells (twoV A B N Ad X) none)) (t2 : t 2 = .ptr 0 0) (t5 : t 5 = .ifc 57 (.agg [])) : vc RX realC4 (pst [.t 4] fun r _ => r = .ret (.bool true)) ⟨t, h, []⟩ := by
  obtain ⟨d0, d1, d4⟩ := rdX h0
  have e1 : A.length + B.length ≤ room := by unfold room; omega
  have hp := shaSum (ex := false) (isB_bytes (A ++ B)) (by simp [bytesV]; omega)
  unfold realC4
  simp [t2, fadV, d0, d1, asV, e1, s2b_t]
  refine (PCalls.at RX.low (hp.2.up RX.up) (fun v hv => by simp at hv; subst hv; exact lowB (isB_bytes _) _) _).mono ?_
  rintro r h' ⟨rfl, rfl⟩
  have sN : ∀ Z : List V, Z.length = 32 → stV (h' ++ [some (.cells Z none)]) 32 (.ptr h'.length 0) (.agg (shaF (bytesV (A ++ B)))) = some (.skip (h' ++ [some (.cells (shaF (bytesV (A ++ B))) none)])) := fun Z hZ => by
    rw [stB32 (hget_new _ _) hZ hp.1]; simp
  have sc : slcaVV (h' ++ [some (.cells (shaF (bytesV (A ++ B))) none)]) 32 1 false (.ptr h'.length 0) = some (.val (.sl h'.length 0 32 32 true 1 false) (h' ++ [some (.cells (shaF (bytesV (A ++ B))) none)])) := slca_at (hget_new _ _) (isK_len hp.1)
  have sb : b2sV (h' ++ [some (.cells (shaF (bytesV (A ++ B))) none)]) (.sl h'.length 0 32 32 true 1 false) = some (.str (rHash A B)) := b2s_sl (hget_new _ _) hp.1
  have h0' : hget (h' ++ [some (.cells (shaF (bytesV (A ++ B))) none)]) 0 = some (.cells (twoV A B N Ad X) none) := by rw [hget_old (hget_lt h0)]; exact h0
  obtain ⟨g0, g1, g4⟩ := rdX h0'
  simp [sN]
  refine vD_lin ?_
  simp [reL, vLs, vLg, vLq, dstO, nth_zero, nth_succ, nd, tell, fadV, asV, t2, t5, g0, g1, aop_slcaV, sc, sb, aop_invV, rInv "Hash" 113 rfl]
  refine (PCalls.at RX.low (realHash (a := A) (b := B) (by omega)) (fun v hv => by simp at hv; rcases hv with rfl | rfl | rfl <;> first | exact .str _ | exact .agg _ (by simp)) _).mono ?_
  rintro r h' ⟨rfl, rfl⟩
  simp [reL, vLs, vLg, vLq, dstO, nth_zero, nth_succ, nd, tell, fadV, asV, t2, t5, g0, g1, aop_slcaV, sc, sb]

def iL (s : List Int) (m : Nat) (h : Hp) (k : Nat) (st : St) : Prop := ∃ i, k + i = m ∧ st.d = [] ∧ st.h = h ∧ st.t 2 = .ptr 0 0 ∧ st.t 5 = .ifc 57 (.agg []) ∧ st.t 17 = keysVQ m s ∧ st.t 19 = .lst false (kStrs s m) ∧ st.t 115 = .int .i64 m ∧ st.t 116 = .int .i64 i
theorem kStrs_sl (s : List Int) (m : Nat) (h : Hp) : Sl h 1 (.lst false (kStrs s m)) m (kStrs s m) := by
  have := flat_chunk (es := 1) (ag := false) (n := m) (l := kStrs s m) (by rw [kStrs_len]; omega) (fun _ => rfl) (fun y hy => by obtain ⟨j, _, rfl⟩ := List.mem_map.1 hy; rfl) h
  rwa [chunk_one m _ (kStrs_len s m)] at this
theorem chunk_get : ∀ (m : Nat) (l : List V) (i : Nat), i < m → (chunk 32 true m l)[i]? = some (.agg ((l.drop (i * 32)).take 32))
  | 0, l, i, h => by omega
  | m + 1, l, 0, h => by simp [chunk]
  | m + 1, l, i + 1, h => by
    have := chunk_get m (l.drop 32) i (by omega)
    simp only [chunk, List.getElem?_cons_succ, this, List.drop_drop]
    rw [show 32 + i * 32 = (i + 1) * 32 by omega]
theorem chunk_len (m : Nat) : ∀ l : List V, (chunk 32 true m l).length = m := by
  induction m with
  | zero => intro l; rfl
  | succ m ih => intro l; simp [chunk, ih]
theorem iad_keys {s : List Int} {m i : Nat} (hs : s.length = 32 * m) (hi : i < m) : iadV 32 (keysVQ m s) (.int .i64 i) = some (.fp (pcI s i) 0) := by
  have hg := chunk_get m (bytesI s) i hi
  have hd : (chunk 32 true m (bytesI s)).getD i .nptr = .agg (pcI s i) := by rw [List.getD_eq_getElem?_getD, hg]; rfl
  unfold keysVQ
  simp only [iadV, Int.toNat_natCast, hd, chunk_len]
  rw [if_pos ⟨by omega, by omega, isK_len (pcI_is hs hi)⟩]
  rfl
theorem slca_fp {h : Hp} {c : List V} (hc : isK .u8 32 c = true) : slcaVV h 32 1 false (.fp c 0) = some (.val (.lst true c) h) := by
  have h1 : sub c 0 32 = some c := by
    unfold sub; rw [if_pos (by rw [isK_len hc]; omega), List.drop_zero, List.take_of_length_le (by rw [isK_len hc]; omega)]
  simp only [slcaVV, Nat.mul_one, h1, Option.map_some]
  rw [chunk_one 32 c (isK_len hc), List.take_of_length_le (by rw [isK_len hc]; omega), List.drop_zero]
  rfl
theorem b2s_lst {h : Hp} {c : List V} (hc : isK .u8 32 c = true) : b2sV h (.lst true c) = some (.str (strC c)) := by
  have h1 := (sl_lst (h := h) (ex := true) (isK_all hc)).1
  simp only [b2sV, V.isStr, h1]
  rw [if_neg (by decide), if_pos (fun v hv => by obtain ⟨n, rfl⟩ := isK_all hc v hv; rfl)]
  rfl
theorem law3 {h : Hp} {t : Nat → V} {A B : List UInt8} {N : Nat} {Ad X : List UInt8} {n : Int} (hA : A.length ≤ 1000) (hB : B.length ≤ 1000) (hX : X.length ≤ 1000) (h0 : hget h 0 = some (.cells (twoV A B N Ad X) none)) (h1 : hget h 1 = some (.cells (kc A) none)) (t1 : t 1 = .int .i64 n) (t2 : t 2 = .ptr 0 0) (t5 : t 5 = .ifc 57 (.agg [])) (t6 : t 6 = .ptr 1 0) (t7 : t 7 = .bool (decide (A.length = 32))) : vc RX realC3 (pst [.t 4] fun r _ => r = .ret (.bool true)) ⟨t, h, []⟩ := by
  obtain ⟨d0, d1, d4⟩ := rdX h0
  have r6 : rd h (.ptr 1 0) 32 = some (kc A) := rd_allc h1 (isK_len (kc_is A))
  obtain ⟨hlw, hK⟩ := macKeys (bs := bytesV X) n (kc_is A) (isB_bytes X) (by simp [bytesV]; omega)
  unfold realC3
  simp [t1, t2, t6, r6, fadV, d0, d1, d4, asV, s2b_t]
  refine (PCalls.at RX.low (hK.up RX.up) (fun v hv => by
    simp at hv; rcases hv with rfl | rfl | rfl
    · exact low_agg (kc_is A)
    · exact lowB (isB_bytes X) _
    · exact .int _ _) _).mono ?_
  rintro r h' ⟨rfl, rfl⟩
  simp [t1, t2, t5, d0, d4, fadV, asV, aop_invV, rInv "Keys" 114 rfl]
  refine (PCalls.at RX.low ((realKeys (s := A) (b := X) n (by omega)).up RX.up) (fun v hv => by simp at hv; rcases hv with rfl | rfl | rfl | rfl <;> first | exact .str _ | exact .int _ _ | exact .agg _ (by simp)) _).mono ?_
  rintro r h' ⟨rfl, rfl⟩
  by_cases hc : A.length = 32 ∧ 1 ≤ n ∧ n ≤ 3
  · obtain ⟨m, rfl⟩ : ∃ m : Nat, n = m := ⟨n.toNat, by omega⟩
    have hok : KOk (kz A) (bytesV X) m := ⟨kz_is A, isB_bytes X, by simp [bytesV]; omega, by omega, by omega⟩
    obtain ⟨hs, _⟩ := kS_spec hok
    have e1 : mkR (kc A) (bytesV X) m = keysVQ m (kS (kz A) (bytesV X) m) := by
      unfold mkR; rw [if_pos hc.2, kc_kz hc.1, Int.toNat_natCast]
    have e2 : mkE m = 0 := by unfold mkE; rw [if_pos hc.2]
    have e3 : rKeys A X m = .lst false (kStrs (kS (kz A) (bytesV X) m) m) := by unfold rKeys; rw [if_pos hc, Int.toNat_natCast]
    rw [e3, e1, e2]
    generalize kS (kz A) (bytesV X) m = ks at hs ⊢
    have l1 := fun h => (keysVQ_sl hs h).len
    have l2 := fun h => (kStrs_sl ks m h).len
    simp [t7, hc.1, l1, l2]
    refine vc_loop _ _ _ (iL ks m h') m ⟨0, by simp, by simp, by simp, by simp [t2], by simp [t5], by simp, by simp, by simp, by simp⟩ ?_
    clear t1 t2 t5 t6 t7
    rintro k ⟨t, h2, d⟩ ⟨i, hk, hd, hh, t2, t5, t17, t19, t115, t116⟩
    simp only at hd hh t2 t5 t17 t19 t115 t116
    subst hd hh
    by_cases hi : i < m
    · have hi' : (i : Int) < m := by omega
      have w1 : IntKind.i64.wrap ((i : Int) + 1) = (i : Int) + 1 := by rw [wrap64 (by omega) (by omega)]
      obtain ⟨p, hp1, hp2⟩ := (keysVQ_sl hs h2).at (k := .i64) hi
      obtain ⟨q, hq1, hq2⟩ := (kStrs_sl ks m h2).at (k := .i64) hi
      have hpc := pcI_is hs hi
      have hp2 : rd h2 p 32 = some (pcI ks i) := hp2
      have hq3 : rd h2 q 1 = some [.str (strC (pcI ks i))] := by
        rw [hq2]
        have : (kStrs ks m)[i]? = some (.str (strC (pcI ks i))) := by simp [kStrs, hi]
        have := sub_1 this
        unfold sub at this
        split at this
        · simpa using this
        · cases this
      simp [t115, t116, hi, hi']
      refine vD_lin ?_
      simp [reL, vLs, vLg, vLq, dstO, nth_zero, nth_succ, nd, tell, t17, t19, hq1, hq3, asV, iad_keys hs hi, aop_slcaV, slca_fp hpc, b2s_lst hpc]
      simp [t116, w1]
      exact ⟨k - 1, by omega, i + 1, by omega, rfl, rfl, by simp [t2], by simp [t5], by simp [t17], by simp [t19], by simp [t115], by simp⟩
    · have him : i = m := by omega
      subst him
      simp [t115, t116]
      exact law4 hA hB h0 (by simp [t2]) (by simp [t5])
  · have e3 : rKeys A X n = .nsl := by unfold rKeys; rw [if_neg hc]
    rw [e3]
    by_cases h : A.length = 32
    · have hm : mkE n = 2 := by unfold mkE; rw [if_neg (fun hh => hc ⟨h, hh⟩)]
      simp [t7, h, hm, lenV_nsl']
      refine vc_loop _ _ _ (fun _ st => st.t 2 = .ptr 0 0 ∧ st.t 5 = .ifc 57 (.agg []) ∧ st.t 115 = .int .i64 0 ∧ st.t 116 = .int .i64 0 ∧ st.h = h' ∧ st.d = []) 0 ⟨by simp [t2], by simp [t5], by simp, by simp, by simp, by simp⟩ ?_
      rintro k ⟨t', h2, d⟩ ⟨t2', t5', t115, t116, hh, hd⟩
      simp only at t2' t5' t115 t116 hh hd
      subst hh hd
      simp [t115, t116]
      exact law4 hA hB h0 (by simp [t2']) (by simp [t5'])
    · simp [t7, h, lenV_nsl']
      refine vc_loop _ _ _ (fun _ st => st.t 2 = .ptr 0 0 ∧ st.t 5 = .ifc 57 (.agg []) ∧ st.t 115 = .int .i64 0 ∧ st.t 116 = .int .i64 0 ∧ st.h = h' ∧ st.d = []) 0 ⟨by simp [t2], by simp [t5], by simp, by simp, by simp, by simp⟩ ?_
      rintro k ⟨t', h2, d⟩ ⟨t2', t5', t115, t116, hh, hd⟩
      simp only at t2' t5' t115 t116 hh hd
      subst hh hd
      simp [t115, t116]
      exact law4 hA hB h0 (by simp [t2']) (by simp [t5'])

theorem law2 {h : Hp} {t : Nat → V} {A B : List UInt8} {N : Nat} {Ad X : List UInt8} {n : Int} (hA : A.length ≤ 1000) (hB : B.length ≤ 1000) (hX : X.length ≤ 1000) (h0 : hget h 0 = some (.cells (twoV A B N Ad X) none)) (h1 : hget h 1 = some (.cells (kc A) none)) (h2 : hget h 2 = some (.cells (kc B) none)) (t1 : t 1 = .int .i64 n) (t2 : t 2 = .ptr 0 0) (t5 : t 5 = .ifc 57 (.agg [])) (t6 : t 6 = .ptr 1 0) (t7 : t 7 = .bool (decide (A.length = 32))) (t8 : t 8 = .ptr 2 0) (t9 : t 9 = .bool (decide (B.length = 32))) : vc RX realC2 (pst [.t 4] fun r _ => r = .ret (.bool true)) ⟨t, h, []⟩ := by
  have r6 : rd h (.ptr 1 0) 32 = some (kc A) := rd_allc h1 (isK_len (kc_is A))
  have r8 : rd h (.ptr 2 0) 32 = some (kc B) := rd_allc h2 (isK_len (kc_is B))
  have alow : ∀ v ∈ [V.agg [], .str A, .str B], Low 0 v := fun v hv => by simp at hv; rcases hv with rfl | rfl | rfl <;> first | exact .str _ | exact .agg _ (by simp)
  unfold realC2
  by_cases hc : A.length = 32 ∧ B.length = 32
  · obtain ⟨ha, hb⟩ := hc
    have hp := ladShared (kc_is A) (kc_is B)
    simp [t7, t9, ha, hb, t6, t8, r6, r8, asV]
    refine (PCalls.at RX.low hp.2 (fun v hv => by simp at hv; rcases hv with rfl | rfl <;> exact low_agg (kc_is _)) _).mono ?_
    rintro r h' ⟨rfl, rfl⟩
    rw [kc_kz ha, kc_kz hb] at hp ⊢
    have sN : ∀ Z : List V, Z.length = 32 → stV (h' ++ [some (.cells Z none)]) 32 (.ptr h'.length 0) (.agg (shA (kz A) (kz B))) = some (.skip (h' ++ [some (.cells (shA (kz A) (kz B)) none)])) := fun Z hZ => by
      rw [stB32 (hget_new _ _) hZ hp.1]; simp
    have sc : slcaVV (h' ++ [some (.cells (shA (kz A) (kz B)) none)]) 32 1 false (.ptr h'.length 0) = some (.val (.sl h'.length 0 32 32 true 1 false) (h' ++ [some (.cells (shA (kz A) (kz B)) none)])) := slca_at (hget_new _ _) (isK_len hp.1)
    have sb : b2sV (h' ++ [some (.cells (shA (kz A) (kz B)) none)]) (.sl h'.length 0 32 32 true 1 false) = some (.str (strC (shA (kz A) (kz B)))) := b2s_sl (hget_new _ _) hp.1
    have g0 : hget (h' ++ [some (.cells (shA (kz A) (kz B)) none)]) 0 = some (.cells (twoV A B N Ad X) none) := by rw [hget_old (hget_lt h0)]; exact h0
    have g1 : hget (h' ++ [some (.cells (shA (kz A) (kz B)) none)]) 1 = some (.cells (kc A) none) := by rw [hget_old (hget_lt h1)]; exact h1
    obtain ⟨d0, d1, d4⟩ := rdX g0
    have ebb : ∀ b : Bool, veq .bool (.bool b) (.bool b) = some true := fun b => by cases b <;> rfl
    cases hs : shB (kz A) (kz B) with
    | true =>
      have e1 : rDhB A B = true := by unfold rDhB; simp [ha, hb, hs]
      have e2 : rDh A B = strC (shA (kz A) (kz B)) := by unfold rDh; rw [if_pos e1]
      simp [sN, hs, aop_slcaV, sc, sb, t2, t5, fadV, d0, d1, asV, aop_invV, rInv "Dh" 112 rfl]
      refine (PCalls.at RX.low (realDh A B) alow _).mono ?_
      rintro r h3 ⟨rfl, rfl⟩
      simp [e1, e2, ebb]
      exact law3 (n := n) hA hB hX g0 g1 (by simp [t1]) (by simp [t2]) (by simp [t5]) (by simp [t6]) (by simp [t7])
    | false =>
      have e1 : rDhB A B = false := by unfold rDhB; simp [hs]
      have e2 : rDh A B = [] := by unfold rDh; rw [if_neg (by rw [e1]; decide)]
      simp [sN, hs, t2, t5, fadV, d0, d1, asV, aop_invV, rInv "Dh" 112 rfl]
      refine (PCalls.at RX.low (realDh A B) alow _).mono ?_
      rintro r h3 ⟨rfl, rfl⟩
      simp [e1, e2, ebb]
      exact law3 (n := n) hA hB hX g0 g1 (by simp [t1]) (by simp [t2]) (by simp [t5]) (by simp [t6]) (by simp [t7])
  · have e1 : rDhB A B = false := by
      unfold rDhB
      by_cases ha : A.length = 32
      · have hb : ¬ B.length = 32 := fun hb => hc ⟨ha, hb⟩
        simp [hb]
      · simp [ha]
    have e2 : rDh A B = [] := by unfold rDh; rw [if_neg (by rw [e1]; decide)]
    obtain ⟨d0, d1, d4⟩ := rdX h0
    have ebb : ∀ b : Bool, veq .bool (.bool b) (.bool b) = some true := fun b => by cases b <;> rfl
    by_cases ha : A.length = 32
    · have hb : ¬ B.length = 32 := fun hb => hc ⟨ha, hb⟩
      simp [t7, t9, ha, hb, t2, t5, fadV, d0, d1, asV, aop_invV, rInv "Dh" 112 rfl]
      refine (PCalls.at RX.low (realDh A B) alow _).mono ?_
      rintro r h3 ⟨rfl, rfl⟩
      simp [e1, e2, ebb]
      exact law3 (n := n) hA hB hX h0 h1 (by simp [t1]) (by simp [t2]) (by simp [t5]) (by simp [t6]) (by simp [t7])
    · simp [t7, ha, t2, t5, fadV, d0, d1, asV, aop_invV, rInv "Dh" 112 rfl]
      refine (PCalls.at RX.low (realDh A B) alow _).mono ?_
      rintro r h3 ⟨rfl, rfl⟩
      simp [e1, e2, ebb]
      exact law3 (n := n) hA hB hX h0 h1 (by simp [t1]) (by simp [t2]) (by simp [t5]) (by simp [t6]) (by simp [t7])

theorem law1 {h : Hp} {t : Nat → V} {A B : List UInt8} {N : Nat} {Ad X : List UInt8} {n : Int} (hA : A.length ≤ 1000) (hB : B.length ≤ 1000) (hX : X.length ≤ 1000) (h0 : hget h 0 = some (.cells (twoV A B N Ad X) none)) (h1 : hget h 1 = some (.cells (kc A) none)) (h2 : hget h 2 = some (.cells (kc B) none)) (t1 : t 1 = .int .i64 n) (t2 : t 2 = .ptr 0 0) (t5 : t 5 = .ifc 57 (.agg [])) (t6 : t 6 = .ptr 1 0) (t7 : t 7 = .bool (decide (A.length = 32))) (t8 : t 8 = .ptr 2 0) (t9 : t 9 = .bool (decide (B.length = 32))) : vc RX realC1 (pst [.t 4] fun r _ => r = .ret (.bool true)) ⟨t, h, []⟩ := by
  have r6 : rd h (.ptr 1 0) 32 = some (kc A) := rd_allc h1 (isK_len (kc_is A))
  have alow : ∀ v ∈ [V.agg [], .str A], Low 0 v := fun v hv => by simp at hv; rcases hv with rfl | rfl <;> first | exact .str _ | exact .agg _ (by simp)
  unfold realC1
  by_cases ha : A.length = 32
  · have hp := ladPub (kc_is A)
    simp [t7, ha, t6, r6, asV]
    refine (PCalls.at RX.low hp.2 (fun v hv => by simp at hv; subst hv; exact low_agg (kc_is _)) _).mono ?_
    rintro r h' ⟨rfl, rfl⟩
    rw [kc_kz ha] at hp ⊢
    have sN : ∀ Z : List V, Z.length = 32 → stV (h' ++ [some (.cells Z none)]) 32 (.ptr h'.length 0) (.agg (pubF (kz A))) = some (.skip (h' ++ [some (.cells (pubF (kz A)) none)])) := fun Z hZ => by
      rw [stB32 (hget_new _ _) hZ hp.1]; simp
    have sc : slcaVV (h' ++ [some (.cells (pubF (kz A)) none)]) 32 1 false (.ptr h'.length 0) = some (.val (.sl h'.length 0 32 32 true 1 false) (h' ++ [some (.cells (pubF (kz A)) none)])) := slca_at (hget_new _ _) (isK_len hp.1)
    have sb : b2sV (h' ++ [some (.cells (pubF (kz A)) none)]) (.sl h'.length 0 32 32 true 1 false) = some (.str (strC (pubF (kz A)))) := b2s_sl (hget_new _ _) hp.1
    have g0 : hget (h' ++ [some (.cells (pubF (kz A)) none)]) 0 = some (.cells (twoV A B N Ad X) none) := by rw [hget_old (hget_lt h0)]; exact h0
    have g1 : hget (h' ++ [some (.cells (pubF (kz A)) none)]) 1 = some (.cells (kc A) none) := by rw [hget_old (hget_lt h1)]; exact h1
    have g2 : hget (h' ++ [some (.cells (pubF (kz A)) none)]) 2 = some (.cells (kc B) none) := by rw [hget_old (hget_lt h2)]; exact h2
    obtain ⟨d0, d1, d4⟩ := rdX g0
    have e2 : rPub A = strC (pubF (kz A)) := by unfold rPub; rw [if_pos ha]
    simp [sN, aop_slcaV, sc, sb, t2, t5, fadV, d0, asV, aop_invV, rInv "Pub" 116 rfl]
    refine (PCalls.at RX.low (realPub A) alow _).mono ?_
    rintro r h3 ⟨rfl, rfl⟩
    simp [e2]
    exact law2 (n := n) hA hB hX g0 g1 g2 (by simp [t1]) (by simp [t2]) (by simp [t5]) (by simp [t6]) (by simp [t7]) (by simp [t8]) (by simp [t9])
  · obtain ⟨d0, d1, d4⟩ := rdX h0
    have e2 : rPub A = [] := by unfold rPub; rw [if_neg ha]
    simp [t7, ha, t2, t5, fadV, d0, asV, aop_invV, rInv "Pub" 116 rfl]
    refine (PCalls.at RX.low (realPub A) alow _).mono ?_
    rintro r h3 ⟨rfl, rfl⟩
    simp [e2]
    exact law2 (n := n) hA hB hX h0 h1 h2 (by simp [t1]) (by simp [t2]) (by simp [t5]) (by simp [t6]) (by simp [t7]) (by simp [t8]) (by simp [t9])

theorem real_law {A B : List UInt8} {N : Nat} {Ad X : List UInt8} (n : Int) : PCalls RX 3 [.agg (twoV A B N Ad X), .int .i64 n] fun r => r = .ret (.bool true) := by
  refine PCalls.of (acall RX.ok (show ckF RX.P 3 F3 = true from ck3) rfl ?_) fun r hr => by subst hr; exact .bool _
  have hone : ∀ c ∈ twoV A B N Ad X, c.one = true := by simp [twoV, V.one]
  have hlow : Low 0 (.agg (twoV A B N Ad X)) := .agg _ (by simp [twoV]; exact ⟨.str _, .str _, .int _ _, .str _, .str _⟩)
  have hl5 : (twoV A B N Ad X).length = 5 := rfl
  simp only [F3_eq, F3']
  simp [V.cells, eq_true hone]
  refine (PCalls.at RX.low (alive11.up RX.up) (fun a ha => by cases ha) _).mono ?_
  rintro r h' ⟨rfl, rfl⟩
  simp
  refine (PCalls.at RX.low (real6.up RX.up) (fun a ha => by cases ha) _).mono ?_
  rintro r h' ⟨rfl, rfl⟩
  have hrd : rd [some (.cells (twoV A B N Ad X) none)] (.ptr 0 0) 5 = some (twoV A B N Ad X) := rd_allc rfl hl5
  simp [hrd, asV]
  refine (PCalls.at RX.low ((few_spec A B N Ad X).up RX.up) (fun a ha => by simp at ha; subst ha; exact hlow) _).mono ?_
  rintro r h' ⟨rfl, rfl⟩
  by_cases hf : A.length ≤ 1000 ∧ B.length ≤ 1000 ∧ Ad.length ≤ 1000 ∧ X.length ≤ 1000
  · obtain ⟨hA, hB, hAd, hX⟩ := hf
    obtain ⟨d0, d1, d4⟩ := rdX (h := [some (.cells (twoV A B N Ad X) none)]) rfl
    simp [hA, hB, hAd, hX, fadV, d0, asV]
    refine (PCalls.at RX.low ((lkey_spec A).up RX.up) (fun a ha => by simp at ha; subst ha; exact .str _) _).mono ?_
    rintro r h' ⟨rfl, rfl⟩
    have s1 : ∀ D Z : List V, Z.length = 32 → ∀ c, isK .u8 32 c = true → stV [some (.cells D none), some (.cells Z none)] 32 (.ptr 1 0) (.agg c) = some (.skip [some (.cells D none), some (.cells c none)]) := fun D Z hZ c hc => by rw [stB32 rfl hZ hc]; rfl
    obtain ⟨f0, f1, f4⟩ := rdX (A := A) (B := B) (N := N) (Ad := Ad) (X := X) (h := [some (.cells (twoV A B N Ad X) none), some (.cells (kc A) none)]) rfl
    simp [s1, kc_is, fadV, f1, asV]
    refine (PCalls.at RX.low ((lkey_spec B).up RX.up) (fun a ha => by simp at ha; subst ha; exact .str _) _).mono ?_
    rintro r h' ⟨rfl, rfl⟩
    have s2 : ∀ D E Z : List V, Z.length = 32 → ∀ c, isK .u8 32 c = true → stV [some (.cells D none), some (.cells E none), some (.cells Z none)] 32 (.ptr 2 0) (.agg c) = some (.skip [some (.cells D none), some (.cells E none), some (.cells c none)]) := fun D E Z hZ c hc => by rw [stB32 rfl hZ hc]; rfl
    simp [s2, kc_is]
    exact law1 (n := n) hA hB hX rfl rfl rfl (by simp) (by simp) (by simp) (by simp) (by simp) (by simp) (by simp)
  · simp [hf]
end Go.Proofs.YtfinnljkcgglfaaGreatDoor
