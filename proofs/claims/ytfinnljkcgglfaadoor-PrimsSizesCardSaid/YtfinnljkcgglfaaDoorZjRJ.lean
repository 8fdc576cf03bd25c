/- Keys of bytes. -/
import Derived.Test.YtfinnljkcgglfaaDoorZjPJ
import Derived.Test.YtfinnljkcgglfaaDoorZiKeysT
import Derived.Test.YtfinnljkcgglfaaDoorZiAl2
set_option linter.unusedSimpArgs false
set_option linter.unusedVariables false
namespace Go.Proofs.YtfinnljkcgglfaaDoor
open Go Go.Vs Go.RowKit
set_option maxRecDepth 100000
set_option linter.unusedSimpArgs false
set_option linter.unusedVariables false
attribute [local simp] unV extV wanted strBin vpt vpn vmp nilV_ptr vic vsn

/-- What mac.Keys asks. -/
structure KOk (key bs : List V) (n : Nat) : Prop where
  k : isK .u8 32 key = true
  b : isB bs
  l : bs.length < 2 ^ 29
  h1 : 1 ≤ n
  h3 : n ≤ 3
open Classical in
noncomputable def kS (key bs : List V) (n : Nat) : List Int := if h : KOk key bs n then Classical.choose (keysK_ex h.k h.b h.l h.h1 h.h3) else []
theorem kS_spec {key bs : List V} {n : Nat} (h : KOk key bs n) : (kS key bs n).length = 32 * n ∧ PCalls DX 81 [.agg key, .lst false bs, .int .i64 n] fun r => r = .ret (.tup [keysVQ n (kS key bs n), .int .i64 0]) := by
  unfold kS; rw [dif_pos h]; exact Classical.choose_spec (keysK_ex h.k h.b h.l h.h1 h.h3)
/-- The i-th piece. -/
def pcI (s : List Int) (i : Nat) : List V := ((bytesI s).drop (i * 32)).take 32
theorem pcI_is {s : List Int} {n i : Nat} (hs : s.length = 32 * n) (hi : i < n) : isK .u8 32 (pcI s i) = true := isK_mk (by
  unfold pcI; rw [List.length_take, List.length_drop, bytesI_length, hs]; omega) fun v hv => by
  have := List.mem_of_mem_drop (List.mem_of_mem_take hv)
  obtain ⟨c, _, rfl⟩ := List.mem_map.1 this; exact ⟨_, rfl⟩
def kStrs (s : List Int) (n : Nat) : List V := (List.range n).map fun j => .str (strC (pcI s j))
theorem kStrs_len (s : List Int) (n : Nat) : (kStrs s n).length = n := by simp [kStrs]
theorem kStrs_succ (s : List Int) (n : Nat) : kStrs s (n + 1) = kStrs s n ++ [.str (strC (pcI s n))] := by simp [kStrs, List.range_succ]
theorem keysVQ_sl {s : List Int} {n : Nat} (hs : s.length = 32 * n) (h : Hp) : Sl h 32 (keysVQ n s) n (bytesI s) := flat_chunk (by rw [bytesI_length, hs]; omega) (fun e => by cases e) (bytesI_one s) h
theorem keysVQ_low {s : List Int} {n : Nat} (hs : s.length = 32 * n) : Low 0 (keysVQ n s) := Fz.low (fun h => keysVQ_sl hs h) (bytesI_low s)
def iK (s : List Int) (n : Nat) (k : Nat) (st : St) : Prop := ∃ i v, k + i = n ∧ st.d = [] ∧ st.t 35 = keysVQ n s ∧ st.t 36 = .int .i64 n ∧ st.t 37 = .int .i64 i ∧ st.t 13 = v ∧ 2 ≤ st.h.length ∧ Vs.Own st.h 2 1 false v i (kStrs s i)
noncomputable def rKeys (s b : List UInt8) (n : Int) : V := if s.length = 32 ∧ 1 ≤ n ∧ n ≤ 3 then .lst false (kStrs (kS (kz s) (bytesV b) n.toNat) n.toNat) else .nsl
theorem rk_ice {h : Hp} {s : List Int} {n : Nat} {v : V} (h1 : 1 ≤ n) (hO : Vs.Own h 2 1 false v n (kStrs s n)) : Ice h 0 v (.lst false (kStrs s n)) := by
  have hlen := kStrs_len s n
  have hs : ∀ y ∈ kStrs s n, ∃ z, y = .str z := fun y hy => by
    obtain ⟨j, _, rfl⟩ := List.mem_map.1 hy; exact ⟨_, rfl⟩
  obtain ⟨hl', ⟨rfl, hn⟩ | ⟨rfl, hn⟩ | ⟨b, cap, ex, rest, ty, rfl, hb, hg, hc, hce⟩⟩ := hO
  · omega
  · omega
  · have := Ice.sl (h := h) (k := 0) b 0 n cap ex 1 false _ ty (kStrs s n) (kStrs s n) (Nat.zero_le _) hg (by have := sub_all (kStrs s n) rest; rwa [hlen] at this) (fun _ => rfl) rfl (fun j x y hx hy => by
      rw [hx] at hy; cases hy
      obtain ⟨z, rfl⟩ := hs _ (List.mem_of_getElem? hx); exact .low _ (.str _)) (fun y hy => by obtain ⟨z, rfl⟩ := hs y hy; rfl)
    rwa [chunk_one n _ hlen] at this
set_option maxHeartbeats 1000000 in
theorem realKeys_run {s b : List UInt8} {n : Nat} (h : s.length = 32) (hb : b.length < 2 ^ 29) (h1 : 1 ≤ n) (h3 : n ≤ 3) : ACalls DX 76 [.agg [], .str s, .str b, .int .i64 n] [] fun r h' => ∃ v, r = .ret v ∧ Vs.Own h' 2 1 false v n (kStrs (kS (kz s) (bytesV b) n) n) := by
  have hok : KOk (kz s) (bytesV b) n := ⟨kz_is s, isB_bytes b, by simpa [bytesV] using hb, h1, h3⟩
  obtain ⟨hsl, hK⟩ := kS_spec hok
  generalize kS (kz s) (bytesV b) n = ks at hsl hK ⊢
  refine acall DX.ok ck76 rfl ?_
  simp [F76, V.cells]
  refine (PCalls.at DX.low (pkey_spec s) (fun v hv => by simp at hv; subst hv; exact .str _) _).mono ?_
  rintro r h' ⟨rfl, rfl⟩
  have s1 : ∀ A Z : List V, Z.length = 32 → ∀ c, isK .u8 32 c = true → stV [some (.cells A none), some (.cells Z none)] 32 (.ptr 1 0) (.agg c) = some (.skip [some (.cells A none), some (.cells c none)]) := fun A Z hZ c hc => by rw [stB32 rfl hZ hc]; rfl
  have r1 : ∀ A : List V, rd [some (.cells A none), some (.cells (kz s) none)] (.ptr 1 0) 32 = some (kz s) := fun A => rd_allc rfl (isK_len (kz_is s))
  simp [s1, kz_is, r1, asV, s2b_t, h]
  refine (PCalls.at DX.low hK (fun v hv => by
    simp at hv; rcases hv with rfl | rfl | rfl
    · exact low_agg (kz_is s)
    · exact lowB (isB_bytes b) _
    · exact .int _ _) _).mono ?_
  rintro r h' ⟨rfl, rfl⟩
  have ln := (keysVQ_sl hsl [some (.cells [] none), some (.cells (kz s) none)]).len
  simp [ln]
  refine vc_loop _ _ _ (iK ks n) n ⟨0, .nsl, by simp, by simp, by simp, by simp, by simp, by simp, by simp, ⟨rfl, .inl ⟨rfl, rfl⟩⟩⟩ ?_
  rintro k ⟨t, h2, d⟩ ⟨i, v, hk, hd, t35, t36, t37, t13, hL, hO⟩
  simp only at hd t35 t36 t37 t13 hL hO
  subst hd
  by_cases hi : i < n
  · have hi' : (i : Int) < n := by omega
    have w1 : IntKind.i64.wrap ((i : Int) + 1) = (i : Int) + 1 := by rw [wrap64 (by omega) (by omega)]
    obtain ⟨p, hp1, hp2⟩ := (keysVQ_sl hsl h2).at (k := .i64) hi
    have hpc := pcI_is hsl hi
    have hp2 : rd h2 p 32 = some (pcI ks i) := hp2
    have sN : ∀ Z : List V, Z.length = 32 → stV (h2 ++ [some (.cells Z none)]) 32 (.ptr h2.length 0) (.agg (pcI ks i)) = some (.skip (h2 ++ [some (.cells (pcI ks i) none)])) := fun Z hZ => by
      rw [stB32 (hget_new _ _) hZ hpc]; simp
    have sc : slcaVV (h2 ++ [some (.cells (pcI ks i) none)]) 32 1 false (.ptr h2.length 0) = some (.val (.sl h2.length 0 32 32 true 1 false) (h2 ++ [some (.cells (pcI ks i) none)])) := slca_at (hget_new _ _) (isK_len hpc)
    have sb : b2sV (h2 ++ [some (.cells (pcI ks i) none)]) (.sl h2.length 0 32 32 true 1 false) = some (.str (strC (pcI ks i))) := b2s_sl (hget_new _ _) hpc
    have hO2 := hO.push [some (.cells (pcI ks i) none)]
    obtain ⟨v', h4, a1, a2, a3, a4, a5, a6⟩ := Own.app (h := h2 ++ [some (.cells (pcI ks i) none)]) (k := 2) (es := 1) (bt := 16) (ag := false) (ty := none) (v := v) (a := .lst true [.str (strC (pcI ks i))]) (m := 1) (zs := [.str (strC (pcI ks i))]) (by simp; omega) hO2 (by simp [src, flat, V.cells]) rfl (by unfold room; omega)
    simp [t37, t36, hi, hi', t35, hp1, hp2, asV, sN, aop_slcaV, sc, sb, fillV, setAll, V.cells, V.one, chunk, t13, a1, w1]
    refine ⟨k - 1, by omega, i + 1, v', by omega, rfl, by simp [t35], by simp [t36], by simp, by simp, ?_, ?_⟩
    · have := a6; simp at this; show 2 ≤ h4.length; omega
    · rw [kStrs_succ]; exact a2
  · have hin : i = n := by omega
    subst hin
    simp [t37, t36, t13]
    exact hO
end Go.Proofs.YtfinnljkcgglfaaDoor
namespace Go.Proofs.YtfinnljkcgglfaaDoor
open Go Go.Vs Go.RowKit
set_option maxRecDepth 100000
set_option linter.unusedSimpArgs false
set_option linter.unusedVariables false
attribute [local simp] unV extV wanted strBin vpt vpn vmp nilV_ptr vic vsn
/-- What mac.Keys comes to, of whatever number. -/
noncomputable def mkR (key bs : List V) (n : Int) : V := if 1 ≤ n ∧ n ≤ 3 then keysVQ n.toNat (kS key bs n.toNat) else .nsl
def mkE (n : Int) : Int := if 1 ≤ n ∧ n ≤ 3 then 0 else 2
theorem macKeys {key bs : List V} (n : Int) (hk : isK .u8 32 key = true) (hB : isB bs) (hl : bs.length < 2 ^ 29) : Low 0 (mkR key bs n) ∧ PCalls DX 81 [.agg key, .lst false bs, .int .i64 n] fun r => r = .ret (.tup [mkR key bs n, .int .i64 (mkE n)]) := by
  unfold mkR mkE
  by_cases hn : 1 ≤ n ∧ n ≤ 3
  · obtain ⟨m, rfl⟩ : ∃ m : Nat, n = m := ⟨n.toNat, by omega⟩
    have hok : KOk key bs m := ⟨hk, hB, hl, by omega, by omega⟩
    obtain ⟨h1, h2⟩ := kS_spec hok
    rw [if_pos hn, if_pos hn, Int.toNat_natCast]
    exact ⟨keysVQ_low h1, h2⟩
  · rw [if_neg hn, if_neg hn]
    exact ⟨.nsl, keys_err hk (by omega)⟩
theorem realKeys {s b : List UInt8} (n : Int) (hb : b.length < 2 ^ 29) : PCalls DX 76 [.agg [], .str s, .str b, .int .i64 n] fun r => r = .ret (rKeys s b n) := by
  by_cases hc : s.length = 32 ∧ 1 ≤ n ∧ n ≤ 3
  · obtain ⟨m, rfl⟩ : ∃ m : Nat, n = m := ⟨n.toNat, by omega⟩
    have := realKeys_run (s := s) (b := b) (n := m) hc.1 hb (by omega) (by omega)
    refine this.ice ?_
    rintro r h' ⟨v, rfl, hO⟩
    refine ⟨Nat.zero_le _, LowH.zero _, .ret (rKeys s b m), ?_, rfl, by simp⟩
    unfold rKeys
    rw [if_pos hc, Int.toNat_natCast]
    exact rk_ice (by omega) hO
  · have hr : rKeys s b n = .nsl := by unfold rKeys; rw [if_neg hc]
    rw [hr]
    refine PCalls.of (acall DX.ok ck76 rfl ?_) fun r hr => by subst hr; exact .nsl
    obtain ⟨hlw, hK⟩ := macKeys n (kz_is s) (isB_bytes b) (by simpa [bytesV] using hb)
    simp [F76, V.cells]
    refine (PCalls.at DX.low (pkey_spec s) (fun v hv => by simp at hv; subst hv; exact .str _) _).mono ?_
    rintro r h' ⟨rfl, rfl⟩
    have s1 : ∀ A Z : List V, Z.length = 32 → ∀ c, isK .u8 32 c = true → stV [some (.cells A none), some (.cells Z none)] 32 (.ptr 1 0) (.agg c) = some (.skip [some (.cells A none), some (.cells c none)]) := fun A Z hZ c hc => by rw [stB32 rfl hZ hc]; rfl
    have r1 : ∀ A : List V, rd [some (.cells A none), some (.cells (kz s) none)] (.ptr 1 0) 32 = some (kz s) := fun A => rd_allc rfl (isK_len (kz_is s))
    simp [s1, kz_is, r1, asV, s2b_t]
    refine (PCalls.at DX.low hK (fun v hv => by
      simp at hv; rcases hv with rfl | rfl | rfl
      · exact low_agg (kz_is s)
      · exact lowB (isB_bytes b) _
      · exact .int _ _) _).mono ?_
    rintro r h' ⟨rfl, rfl⟩
    by_cases h : s.length = 32
    · have hm : mkE n = 2 := by unfold mkE; rw [if_neg (fun hh => hc ⟨h, hh⟩)]
      simp [h, hm]
    · simp [h]
theorem rKeys_low (s b : List UInt8) (n : Int) : Low 0 (rKeys s b n) := by
  unfold rKeys; split
  · refine .lst _ _ fun c hc => ?_
    unfold flat at hc
    obtain ⟨y, hy, hc⟩ := List.mem_flatMap.1 hc
    obtain ⟨j, _, rfl⟩ := List.mem_map.1 hy
    simp [V.cells] at hc; subst hc; exact .str _
  · exact .nsl
theorem real6 : PCalls DX 7 [] fun r => r = .ret (.ifc 52 (.agg [])) := by
  refine PCalls.of (acall DX.ok ck7 rfl ?_) fun r hr => by subst hr; exact .ifc _ _ (.agg _ (by simp))
  simp [F7, fillV]
theorem rInv (z : List V) (m : String) (f : FuncId) (hm : DX.M 52 m = some (f, none)) (args : List V) : invVV (RX z) m args (.ifc 52 (.agg [])) = some (.call f (.agg [] :: args)) := by
  simp only [invVV]
  rw [show (RX z).M 52 m = some (f, none) from hm]
end Go.Proofs.YtfinnljkcgglfaaDoor
