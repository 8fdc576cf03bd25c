/- The reference's steps. -/
import Derived.Test.YtbabpibaccngnaaGreatZkRef2
namespace Go.Proofs.YtbabpibaccngnaaGreat
open Go Go.Vs Go.RowKit
set_option maxRecDepth 100000
set_option linter.unusedSimpArgs false
set_option linter.unusedVariables false
attribute [local simp] unV extV wanted strBin

theorem getB {s : List UInt8} {v : V} (hs : BytesV v s) {j : Nat} (hj : j < s.length) : iadV 1 v (.int .i64 j) = some (.fp [.int .u8 (s.getD j 0).toNat] 0) := by
  rcases hs with ⟨rfl, rfl⟩ | ⟨ex, rfl⟩
  · simp at hj
  · have hl : (bytesV s).length = s.length := by simp [bytesV]
    simp only [iadV, hl, Int.toNat_natCast]
    rw [if_pos ⟨by omega, by omega, by simp [bytesV, hj, V.cells]⟩]
    simp [bytesV, hj, V.cells]
theorem shape29 : L29.c = .seq (.reg [⟨some 2, .mov (.k .nsl), none⟩]) (.seq (.reg [⟨some 3, .mov (.k .nsl), none⟩]) (.seq (.seq (.reg [⟨some 4, .mov (.k (.int .i64 0)), none⟩]) (.block 0 (.loop
        (.seq (.seq (.reg [⟨(some 6), (.mov (.t 4)), none⟩,
          ⟨(some 7), (.bin .add .num (.t 6) (.k (.int .i64 2))), none⟩,
          ⟨(some 8), (.mov (.t 0)), none⟩,
          ⟨(some 9), (.len .slc (.t 8)), none⟩,
          ⟨(some 10), (.bin .lss .num (.t 7) (.t 9)), none⟩,
          ⟨(some 11), (.mov (.t 10)), none⟩,
          ⟨(some 12), (.mov (.t 3)), some (11, true)⟩,
          ⟨(some 13), (.len .slc (.t 12)), some (11, true)⟩,
          ⟨(some 14), (.bin .lss .num (.t 13) (.k (.int .i64 500))), some (11, true)⟩,
          ⟨(some 15), (.pick (.t 11) (.t 14) (.k (.bool false))), none⟩])
        (.cond (.t 15)
          .skip
          (.exit 0)))
        (.seq (.block 1
          (.seq (.dreg opsR (.lin [27] linR))
          (.seq (.reg [⟨(some 45), (.mov (.t 4)), none⟩,
            ⟨(some 46), (.bin .quo .num (.t 45) (.k (.int .i64 3))), none⟩,
            ⟨(some 47), (.cvi .u64 (.t 46)), none⟩,
            ⟨(some 48), (.call (.k (.fn (.func 68) [] [])) [(.t 47)]), none⟩,
            ⟨(some 49), (.bin .add .str (.k (.str [116, 101, 120, 116])) (.t 48)), none⟩,
            ⟨(some 50), (.fad 4 (.t 5)), none⟩,
            ⟨none, (.store 1 (.t 50) (.t 49)), none⟩])
          (.reg [⟨(some 51), (.mov (.t 3)), none⟩,
            ⟨(some 52), (.load 5 true (.t 5)), none⟩,
            ⟨(some 53), (.mks true 5 40 true [(.int .i64 0), (.int .u8 0), (.int .u8 0), (.int .u64 0), (.str [])] 1 [(0, (.t 52))]), none⟩,
            ⟨(some 54), (.app 5 40 true none (.t 51) (.t 53)), none⟩,
            ⟨(some 3), (.mov (.t 54)), none⟩]))))
        (.reg [⟨(some 16), (.mov (.t 4)), none⟩,
          ⟨(some 17), (.bin .add .num (.t 16) (.k (.int .i64 3))), none⟩,
          ⟨(some 4), (.mov (.t 17)), none⟩]))))))
    (.seq (.reg [⟨(some 55), (.mov (.t 3)), none⟩,
      ⟨(some 2), (.mov (.t 55)), none⟩])
    .ret))) := rfl

theorem rdec0 {s : List UInt8} {v : V} (hs : BytesV v s) (hsz : s.length < 2 ^ 40) : ACalls CX 29 [v] [] fun r h' => ∃ ov, r = .ret ov ∧ Vs.Own h' 0 5 true ov (min (s.length / 3) 500) (decCells s (min (s.length / 3) 500)) ∧ (min (s.length / 3) 500 = 0 → ov = .nsl) := by
  have hl := fun h => hs.len h
  refine acall CX.ok ckL29 rfl ?_
  rw [shape29]
  simp
  refine vc_loop _ _ _ (rdInv v s) s.length ⟨0, .nsl, by simp, by simp, by simp, by simp, by simp, by simp, ⟨rfl, .inl ⟨rfl, rfl⟩⟩, fun _ => rfl, fun h => absurd rfl h, rfl⟩ ?_
  rintro k ⟨t, h, d⟩ ⟨i, ov, hk, hi5, hi3, h0, h4, h3, hO, hz, hle, hd⟩
  simp only at h0 h4 h3 hO hd
  subst hd
  have w2 : IntKind.i64.wrap (3 * (i : Int) + 2) = 3 * (i : Int) + 2 := wrap64 (by omega) (by omega)
  have hlo := own_len hO
  have h4' : t 4 = .int .i64 (3 * (i : Int)) := by rw [h4]; congr 1
  by_cases hc : 3 * i + 2 < s.length
  · have hc' : (3 * (i : Int) + 2 < s.length) := by omega
    by_cases h5 : i < 500
    · have h5' : (i : Int) < 500 := by omega
      simp [h4', h0, h3, hl, w2, hc', hlo, h5', asV]
      have g0 := getB hs (j := 3 * i) (by omega)
      have g1 := getB hs (j := 3 * i + 1) (by omega)
      have g2 := getB hs (j := 3 * i + 2) (by omega)
      generalize hb0 : s.getD (3 * i) 0 = b0 at g0
      generalize hb1 : s.getD (3 * i + 1) 0 = b1 at g1
      generalize hb2 : s.getD (3 * i + 2) 0 = b2 at g2
      have e0 : ((3 * i : Nat) : Int) = 3 * (i : Int) := by omega
      have e1 : ((3 * i + 1 : Nat) : Int) = 3 * (i : Int) + 1 := by omega
      have e2 : ((3 * i + 2 : Nat) : Int) = 3 * (i : Int) + 2 := by omega
      rw [e0] at g0; rw [e1] at g1; rw [e2] at g2
      refine vD_lin (lin29 (i := i) (v := v) (b0 := b0) (b1 := b1) (b2 := b2) (by simp [h0]) (by simp [h4']) h5 g0 g1 g2 fun t' q0 q3 q4 q5 => ?_)
      simp [h0] at q0
      simp [h3] at q3
      simp [h4'] at q4
      have hq1 : IntKind.i64.wrap (i : Int) = i := wrap64 (by omega) (by omega)
      have hq2 : IntKind.u64.wrap (i : Int) = i := wrapu64 (by omega) (by omega)
      have hq3 : IntKind.i64.wrap (3 * (i : Int) + 3) = 3 * ((i + 1 : Nat) : Int) := by rw [wrap64 (by omega) (by omega)]; omega
      simp [q4, hq1, hq2, cviV]
      refine (PCalls.at CX.low (refnum_spec (n := i) (by omega)) (fun a ha => by simp at ha; subst ha; exact .int _ _) _).mono ?_
      rintro r h' ⟨rfl, rfl⟩
      have hnl := numB_len 8 (n := i) (by omega)
      have hrm : (numB i).length + 4 ≤ room := by unfold room; omega
      have hrm' : 4 + (numB i).length ≤ room := by unfold room; omega
      have hs2 : stV (h ++ [some (.cells [.int .i64 ((b0.toNat : Int).tmod 12 + 1), .int .u8 ((b1.toNat : Int).tmod 6), .int .u8 ((IntKind.u8.wrap ((b1.toNat : Int) / 6)).tmod 6), .int .u64 b2.toNat, .str []] none)]) 1 (.ptr h.length 4) (.str (116 :: 101 :: 120 :: 116 :: numB i)) = some (.skip (h ++ [some (.cells (stepV b0 b1 b2 i) none)])) := by
        simp [stV, V.cells, wr, hget_new, V.one, setAll, stepV]
      obtain ⟨hrd, _⟩ := rd_st (h := h ++ [some (.cells (stepV b0 b1 b2 i) none)]) (b := h.length) (hget_new _ _)
      obtain ⟨v', h', a1, a2, a3, a4, a5, a6⟩ := Own.app (h := h ++ [some (.cells (stepV b0 b1 b2 i) none)]) (k := 0) (es := 5) (bt := 40) (ag := true) (ty := none) (v := ov) (a := .lst true [.agg (stepV b0 b1 b2 i)]) (m := 1) (zs := stepV b0 b1 b2 i) (Nat.zero_le _) (own_push hO _) (by simp [src, flat, V.cells, stepV]) rfl (by unfold room; omega)
      have hrd' : rd (h ++ [some (.cells (stepV b0 b1 b2 i) none)]) (.ptr h.length 0) 5 = some (stepV b0 b1 b2 i) := hrd
      have hfl : fillV [(.int .i64 0), (.int .u8 0), (.int .u8 0), (.int .u64 0), (.str [])] [(0, 5, .agg (stepV b0 b1 b2 i))] = some (stepV b0 b1 b2 i) := by simp [fillV, setAll, V.cells, V.one, stepV]
      have hch : chunk 5 true 1 (stepV b0 b1 b2 i) = [.agg (stepV b0 b1 b2 i)] := by simp [chunk, stepV]
      simp [q5, q3, q4, fadV, hrm, hrm', hs2, hrd', asV, hfl, hch, a1, hq3]
      refine ⟨k - 1, by omega, i + 1, v', by omega, by omega, by omega, by simp [q0], by simp, by simp, ?_, fun e => by omega, fun _ => by omega, rfl⟩
      simp only [decCells, hb0, hb1, hb2]
      exact a2
    · have h5' : ¬ (i : Int) < 500 := by omega
      have h5'' : (500 : Int) ≤ i := by omega
      have hmn : min (s.length / 3) 500 = i := by omega
      simp [h4', h0, h3, hl, w2, hc', hlo, h5', h5'', asV, show L29.rs = [.t 2] from rfl, hmn]
      exact ⟨hO, fun e => hz (by omega)⟩
  · have hc' : ¬ (3 * (i : Int) + 2 < s.length) := by omega
    have hc'' : (s.length : Int) ≤ 3 * (i : Int) + 2 := by omega
    have hmn : min (s.length / 3) 500 = i := by omega
    simp [h4', h0, h3, hl, w2, hc', hc'', hlo, asV, show L29.rs = [.t 2] from rfl, hmn]
    exact ⟨hO, fun e => hz (by omega)⟩

theorem rdecode_spec {s : List UInt8} {v : V} (hs : BytesV v s) (hsz : s.length < 2 ^ 40) : PCalls CX 29 [v] fun r => r = .ret (decodeV s) := by
  refine (rdec0 hs hsz).ice ?_
  rintro r h' ⟨ov, rfl, hO, h0⟩
  refine ⟨Nat.zero_le _, LowH.zero _, .ret (decodeV s), ?_, rfl, by simp⟩
  show Ice h' 0 ov (decodeV s)
  obtain ⟨hl, ⟨rfl, hn⟩ | ⟨rfl, hn⟩ | ⟨b, cap, ex, rest, ty, rfl, hb, hg, hc, hce⟩⟩ := hO
  · unfold decodeV; rw [hn]; exact .low _ .nsl
  · cases h0 hn
  · have hne : min (s.length / 3) 500 ≠ 0 := fun e => by cases h0 e
    obtain ⟨k, hk⟩ : ∃ k, min (s.length / 3) 500 = k + 1 := ⟨_, (Nat.succ_pred hne).symm⟩
    unfold decodeV
    rw [hk] at hl hg ⊢
    refine .sl b 0 (k + 1) cap ex 5 true _ ty (decCells s (k + 1)) (decCells s (k + 1)) hb hg (by simp [sub, ← hl]) (fun e => by cases e) rfl (fun j x y hx hy => ?_) (fun y hy => (decCells_low s _ y hy).1)
    rw [hx] at hy; cases hy
    exact .low _ (decCells_low s _ _ (List.mem_of_getElem? hx)).2

def decInv (s : List UInt8) (k : Nat) (st : St) : Prop :=
  ∃ i : Nat, k + i = decN s ∧ st.t 22 = .int .i64 i ∧ st.t 21 = .int .i64 (decN s) ∧ st.t 3 = decodeV s ∧ st.t 4 = decodeV s ∧ st.d = []
theorem decodes_law {v : V} {s : List UInt8} (hs : BytesV v s) : PCalls CX 8 [v] fun r => r = .ret (.bool true) := by
  refine PCalls.of (acall CX.ok ckL8 rfl ?_) fun r hr => by subst hr; exact .bool _
  have hl := fun h => hs.len h
  simp [L8]
  refine (PCalls.at CX.low alive22 (fun a ha => by cases ha) _).mono ?_
  rintro r h' ⟨rfl, rfl⟩
  by_cases hbig : (3000 : Int) < s.length
  · have hbig' : ¬ (s.length : Int) ≤ 3000 := by omega
    simp [hl, hbig, hbig']
  · have hbig' : (s.length : Int) ≤ 3000 := by omega
    simp [hl, hbig, hbig']
    refine (PCalls.at CX.low (decode_spec hs (by omega)) (fun a ha => by simp at ha; subst ha; exact hs.low) _).mono ?_
    rintro r h' ⟨rfl, rfl⟩
    simp
    refine (PCalls.at CX.low (rdecode_spec hs (by omega)) (fun a ha => by simp at ha; subst ha; exact hs.low) _).mono ?_
    rintro r h' ⟨rfl, rfl⟩
    have hd1 := fun h => decodeV_len s h
    simp [hd1]
    refine vc_loop _ _ _ (decInv s) (decN s) ⟨0, by simp, by simp, by simp, by simp, by simp, rfl⟩ ?_
    rintro k ⟨t, h', d⟩ ⟨i, hk, h22, h21, h3, h4, hd⟩
    simp only at h22 h21 h3 h4 hd
    subst hd
    by_cases hi : i < decN s
    · have a1 := decodeV_at s hi
      have r1 : ∀ h, rd h (.fp (stepAt s i) 0) 5 = some (stepAt s i) := fun _ => rfl
      have h5c : decN s ≤ 500 := by unfold decN; omega
      have hw : IntKind.i64.wrap ((i : Int) + 1) = (i : Int) + 1 := wrap64 (by omega) (by omega)
      obtain ⟨b0, b1, b2, hst⟩ : ∃ b0 b1 b2, stepAt s i = stepV b0 b1 b2 i := ⟨_, _, _, rfl⟩
      rw [hst] at a1 r1
      have hii : (i : Int) < decN s := by omega
      have hve := veq_st b0 b1 b2 i
      simp [h22, h21, h3, h4, hii, a1, r1, asV, hve, hw]
      exact ⟨k - 1, by omega, i + 1, by omega, by simp, by simp [h21], by simp [h3], by simp [h4], rfl⟩
    · have hii : ¬ (i : Int) < decN s := by omega
      have hii' : (decN s : Int) ≤ i := by omega
      simp [h22, h21, hii, hii']
end Go.Proofs.YtbabpibaccngnaaGreat
