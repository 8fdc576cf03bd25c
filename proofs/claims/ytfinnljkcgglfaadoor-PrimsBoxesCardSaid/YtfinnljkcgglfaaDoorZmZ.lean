/- What the boxes' texts need of others (lines of ZjH, ZjW2, ZjM, ZjP, ZjQ, ZjR2: without the ladder and mac). -/
import Derived.Test.YtfinnljkcgglfaaDoorZjT
import Derived.Test.YtfinnljkcgglfaaDoorZiAl2
import Derived.Test.YtfinnljkcgglfaaDoorZv6
namespace Go.Proofs.YtfinnljkcgglfaaDoor
open Go Go.Vs Go.RowKit
set_option maxRecDepth 100000
set_option linter.unusedSimpArgs false
set_option linter.unusedVariables false
attribute [local simp] unV extV wanted strBin vpt vpn vmp nilV_ptr vic vsn

def isB (ys : List V) : Prop := ∀ y ∈ ys, ∃ n, y = .int .u8 n
theorem rd_fp1 (h : Hp) (v : V) : rd h (.fp [v] 0) 1 = some [v] := rfl
theorem iad2_0 (a b : V) (ha : a.cells = [a]) : iadV 1 (.lst true [a, b]) (.int .i64 ((0 : Nat) : Int)) = some (.fp [a] 0) := by simp [iadV, ha]
theorem iad2_1 (a b : V) (hb : b.cells = [b]) : iadV 1 (.lst true [a, b]) (.int .i64 ((1 : Nat) : Int)) = some (.fp [b] 0) := by simp [iadV, hb]
theorem isB_len {ys : List V} (h : isB ys) : ∀ y ∈ ys, y.cells.length = 1 := fun y hy => by obtain ⟨n, rfl⟩ := h y hy; rfl
theorem sl_lst {h : Hp} {ex : Bool} {bs : List V} (hB : isB bs) : Sl h 1 (.lst ex bs) bs.length bs := by
  have hc : ∀ x ∈ bs, x.cells.length = 1 := isB_len hB
  have hf : flat bs = bs := by
    clear hc
    induction bs with
    | nil => rfl
    | cons a r ih =>
      obtain ⟨n, rfl⟩ := hB a (List.mem_cons_self ..)
      have := ih fun y hy => hB y (List.mem_cons_of_mem _ hy)
      unfold flat at this ⊢
      rw [List.flatMap_cons, this]; rfl
  refine ⟨?_, rfl, trivial⟩
  simp only [src]
  rw [if_pos hc, hf]
theorem lowB {bs : List V} (hB : isB bs) (ex : Bool) : Low 0 (.lst ex bs) := by
  refine .lst _ _ fun c hc => ?_
  unfold flat at hc
  obtain ⟨y, hy, hc⟩ := List.mem_flatMap.1 hc
  obtain ⟨z, rfl⟩ := hB y hy
  simp [V.cells] at hc; subst hc; exact .int _ _
theorem isB_bytes (s : List UInt8) : isB (bytesV s) := fun y hy => by
  obtain ⟨c, _, rfl⟩ := List.mem_map.1 hy; exact ⟨_, rfl⟩
def z32 : List V := [.int .u8 0, .int .u8 0, .int .u8 0, .int .u8 0, .int .u8 0, .int .u8 0, .int .u8 0, .int .u8 0, .int .u8 0, .int .u8 0, .int .u8 0, .int .u8 0, .int .u8 0, .int .u8 0, .int .u8 0, .int .u8 0, .int .u8 0, .int .u8 0, .int .u8 0, .int .u8 0, .int .u8 0, .int .u8 0, .int .u8 0, .int .u8 0, .int .u8 0, .int .u8 0, .int .u8 0, .int .u8 0, .int .u8 0, .int .u8 0, .int .u8 0, .int .u8 0]
/-- The key of a text: prims.key. -/
def kz (s : List UInt8) : List V := if s.length = 32 then bytesV s else z32
theorem isK_bytes {s : List UInt8} (h : s.length = 32) : isK .u8 32 (bytesV s) = true := isK_mk (by simp [bytesV, h]) (isB_bytes s)
theorem kz_is (s : List UInt8) : isK .u8 32 (kz s) = true := by
  unfold kz; split
  · exact isK_bytes (by assumption)
  · rfl
theorem lenV_s (h : Hp) (s : List UInt8) : lenV h .str (.str s) = some (.int .i64 s.length) := rfl
theorem s2b_t (h : Hp) (s : List UInt8) : s2bV h true (.str s) = some (.val (.lst false (bytesV s)) h) := rfl
theorem resV_ct {t : Nat → V} {h : Hp} {a b k : Nat} {cs : List V} (hr : rd h (t a) k = some cs) : resV [.c a k true, .t b] t h = some (.tup [.agg cs, t b]) := by
  simp only [resV, getAll, RV.get, hr, Option.bind_some, asV]
  rfl
theorem pkey_spec (s : List UInt8) : PCalls DX 80 [.str s] fun r => r = .ret (.tup [.agg (kz s), .bool (decide (s.length = 32))]) := by
  refine PCalls.of (acall DX.ok ck80 rfl ?_) fun r hr => by subst hr; exact .tup _ (by simp; exact ⟨.agg _ (isK_low (kz_is s)), .bool _⟩)
  by_cases h : s.length = 32
  · have hk := isK_bytes h
    have ho : ∀ c ∈ bytesV s, c.one = true := bytesV_one s
    have h' : (s.length : Int) = 32 := by omega
    have sA : ∀ A : List V, A.length = 32 → stV [some (.cells A none)] 32 (.ptr 0 0) (.agg (bytesV s)) = some (.skip [some (.cells (bytesV s) none)]) := fun A hA => by
      rw [st_all (n := 32) (old := A) rfl hA (isK_len hk) ho]; rfl
    have ar : ∀ h0, arrpV h0 32 1 (.lst false (bytesV s)) = some (.val (.fp (bytesV s) 0) h0) := fun h0 => by
      simp only [arrpV]
      rw [flat_bytes, if_pos ⟨by rw [isK_len hk]; exact Nat.le_refl 32, by omega⟩]
    have rf : ∀ h0, rd h0 (.fp (bytesV s) 0) 32 = some (bytesV s) := fun h0 => by
      show sub (bytesV s) 0 32 = _
      unfold sub
      rw [if_pos (by rw [isK_len hk]; omega), List.drop_zero, List.take_of_length_le (by rw [isK_len hk]; omega)]
    simp [F80, lenV_s, h, h', s2b_t, aop_arrpV, ar, rf, asV, sA]
    refine (resV_ct (cs := bytesV s) (by simp; exact rd_allc rfl (isK_len hk))).trans ?_
    simp [kz, h]
  · have h' : ¬ (s.length : Int) = 32 := by omega
    have hb : ((s.length : Int) != 32) = true := by simp; omega
    simp [F80, lenV_s, h, h', hb, fillV, stV, wr, hget, V.cells, V.one, setAll]
    refine (resV_ct (cs := z32) (by simp; exact rd_allc rfl rfl)).trans ?_
    simp [kz, h, z32]
/-- The key of a text: the law's. -/
def kc (s : List UInt8) : List V := (bytesV s).take 32 ++ z32.drop s.length
theorem kc_is (s : List UInt8) : isK .u8 32 (kc s) = true := isK_mk (by simp [kc, bytesV, z32]; omega) fun v hv => by
  rcases List.mem_append.1 hv with hv | hv
  · exact isB_bytes s v (List.mem_of_mem_take hv)
  · have := List.mem_of_mem_drop hv
    simp [z32] at this; subst this; exact ⟨_, rfl⟩
theorem kc_kz {s : List UInt8} (h : s.length = 32) : kc s = kz s := by
  unfold kc kz
  rw [if_pos h, List.take_of_length_le (by simp [bytesV, h]), List.drop_eq_nil_of_le (by simp [z32, h]), List.append_nil]
def cpyV (h : Hp) (es : Nat) (d s : V) : Option Rz := match src h es s with
  | some (n, ys) => match d with
    | .nsl => some (.val (.int .i64 0) h)
    | .sl b off len _ _ es' _ => if es' = es then (wr h b off (ys.take (Min.min n len * es))).map (.val (.int .i64 (Min.min n len : Nat))) else none
    | _ => none
  | none => none
theorem aop_cpyV {x : X} {t : Nat → V} {h : Hp} (es : Nat) (d s : O) : aop x t h (.cpy es d s) = cpyV h es (d.ev x t) (s.ev x t) := by
  simp only [aop, cpyV]
  generalize src h es (s.ev x t) = u
  generalize d.ev x t = w
  cases u with
  | none => rfl
  | some p => cases w <;> rfl
theorem lkey_spec (s : List UInt8) : PCalls DX 11 [.str s] fun r => r = .ret (.tup [.agg (kc s), .bool (decide (s.length = 32))]) := by
  refine PCalls.of (acall DX.ok ck11 rfl ?_) fun r hr => by subst hr; exact .tup _ (by simp; exact ⟨.agg _ (isK_low (kc_is s)), .bool _⟩)
  have sc : ∀ A B : List V, B.length = 32 → slcaVV [some (.cells A none), some (.cells B none)] 32 1 false (.ptr 1 0) = some (.val (.sl 1 0 32 32 true 1 false) [some (.cells A none), some (.cells B none)]) := fun A B hB => by
    simp only [slcaVV, Nat.mul_one]; rw [show rd [some (.cells A none), some (.cells B none)] (.ptr 1 0) 32 = some B from rd_allc rfl hB]; rfl
  have hc : ∀ A : List V, cpyV [some (.cells A none), some (.cells z32 none)] 1 (.sl 1 0 32 32 true 1 false) (.str s) = some (.val (.int .i64 (Min.min s.length 32 : Nat)) [some (.cells A none), some (.cells (kc s) none)]) := fun A => by
    have h1 : src [some (.cells A none), some (.cells z32 none)] 1 (.str s) = some (s.length, bytesV s) := rfl
    simp only [cpyV, h1, if_pos, Nat.mul_one]
    have h2 : wr [some (.cells A none), some (.cells z32 none)] 1 0 ((bytesV s).take (Min.min s.length 32)) = some [some (.cells A none), some (.cells (kc s) none)] := by
      have hl : ((bytesV s).take (Min.min s.length 32)).length = Min.min s.length 32 := by simp [bytesV]
      unfold wr
      rw [show hget [some (.cells A none), some (.cells z32 none)] 1 = some (.cells z32 none) from rfl]
      simp only
      rw [if_pos (by rw [hl]; simp [z32]; omega), setAll_eq _ _ _ (by rw [hl]; simp [z32]; omega), hl]
      have e : List.take 0 z32 ++ List.take (min s.length 32) (bytesV s) ++ List.drop (0 + min s.length 32) z32 = kc s := by
        unfold kc
        rw [List.take_zero, List.nil_append, Nat.zero_add]
        rcases Nat.le_total s.length 32 with h | h
        · rw [Nat.min_eq_left h, List.take_of_length_le (l := bytesV s) (by simp [bytesV]), List.take_of_length_le (l := bytesV s) (by simp [bytesV]; exact h)]
        · have d1 : List.drop 32 z32 = [] := rfl
          have d2 : List.drop s.length z32 = [] := List.drop_eq_nil_of_le h
          rw [Nat.min_eq_right h, d1, d2]
      rw [e]; rfl
    rw [h2]; rfl
  have l32 := isK_len (kc_is s)
  have ho : ∀ c ∈ kc s, c.one = true := fun c hc => by obtain ⟨m, rfl⟩ := isK_all (kc_is s) c hc; rfl
  have r1 : ∀ A : List V, rd [some (.cells A none), some (.cells (kc s) none)] (.ptr 1 0) 32 = some (kc s) := fun A => rd_allc rfl l32
  have sA : ∀ A : List V, A.length = 32 → stV [some (.cells A none), some (.cells (kc s) none)] 32 (.ptr 0 0) (.agg (kc s)) = some (.skip [some (.cells (kc s) none), some (.cells (kc s) none)]) := fun A hA => by
    rw [st_all (n := 32) (old := A) rfl hA l32 ho]; rfl
  have hz : [V.int .u8 0, V.int .u8 0, V.int .u8 0, V.int .u8 0, V.int .u8 0, V.int .u8 0, V.int .u8 0, V.int .u8 0, V.int .u8 0, V.int .u8 0, V.int .u8 0, V.int .u8 0, V.int .u8 0, V.int .u8 0, V.int .u8 0, V.int .u8 0, V.int .u8 0, V.int .u8 0, V.int .u8 0, V.int .u8 0, V.int .u8 0, V.int .u8 0, V.int .u8 0, V.int .u8 0, V.int .u8 0, V.int .u8 0, V.int .u8 0, V.int .u8 0, V.int .u8 0, V.int .u8 0, V.int .u8 0, V.int .u8 0] = z32 := rfl
  have hc' := hc
  simp only [z32] at hc'
  simp [F11, aop_slcaV, sc]
  simp [aop_cpyV, hc', r1, asV, lenV_s, sA]
  refine (resV_ct (cs := kc s) (by simp; exact rd_allc rfl l32)).trans ?_
  simp
  by_cases h : s.length = 32
  · simp [h]
  · have h' : ¬ (s.length : Int) = 32 := by omega
    simp [h, h']
/-- A text of bytes. -/
def strC (c : List V) : List UInt8 := c.map fun | .int _ n => UInt8.ofNat n.toNat | _ => 0
theorem one_of {n : Nat} {c : List V} (h : isK .u8 n c = true) : ∀ v ∈ c, v.one = true := fun v hv => by obtain ⟨m, rfl⟩ := isK_all h v hv; rfl
/-- A store of 32 cells over 32. -/
theorem stB32 {h : Hp} {b : Nat} {old c : List V} {ty : Option TypeId} (hg : hget h b = some (.cells old ty)) (hl : old.length = 32) (hc : isK .u8 32 c = true) : stV h 32 (.ptr b 0) (.agg c) = some (.skip (h.set b (some (.cells c ty)))) := st_all hg hl (isK_len hc) (one_of hc)
theorem low_agg {n : Nat} {c : List V} (h : isK .u8 n c = true) : Low 0 (.agg c) := .agg _ (isK_low h)
theorem real6 : PCalls DX 7 [] fun r => r = .ret (.ifc 52 (.agg [])) := by
  refine PCalls.of (acall DX.ok ck7 rfl ?_) fun r hr => by subst hr; exact .ifc _ _ (.agg _ (by simp))
  simp [F7, fillV]
end Go.Proofs.YtfinnljkcgglfaaDoor
