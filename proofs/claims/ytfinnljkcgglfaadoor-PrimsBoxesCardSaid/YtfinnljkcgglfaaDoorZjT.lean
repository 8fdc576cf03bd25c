/- limb's times, by hand: one answer. -/
import Derived.Test.YtfinnljkcgglfaaDoorZjA
import Derived.Test.YtfinnljkcgglfaaDoorZv6
namespace Go.Proofs.YtfinnljkcgglfaaDoor
open Go Go.Vs Go.RowKit
set_option maxRecDepth 100000
set_option linter.unusedSimpArgs false
set_option linter.unusedVariables false

attribute [local simp] unV extV wanted strBin vpt vpn vmp nilV_ptr vic

def adcV (h : Hp) : V → V → V → Option Rz
  | .int .u64 a, .int .u64 b, .int .u64 c => if 0 ≤ c ∧ c ≤ 1 then some (.val (.tup [.int .u64 ((a.toNat + b.toNat + c.toNat) % 2 ^ 64 : Nat), .int .u64 ((a.toNat + b.toNat + c.toNat) / 2 ^ 64 : Nat)]) h) else none
  | _, _, _ => none
theorem aop_adcV {x : X} {t : Nat → V} {h : Hp} (a b c : O) : aop x t h (.j (.adc a b c)) = adcV h (a.ev x t) (b.ev x t) (c.ev x t) := rfl
def iadaV (len es : Nat) : V → V → Option V
  | .ptr b o, .int _ i => if 0 ≤ i ∧ i < len then some (.ptr b (o + i.toNat * es)) else none
  | .fp cs o, .int _ i => if 0 ≤ i ∧ i < len then some (.fp cs (o + i.toNat * es)) else none
  | _, _ => none
theorem aop_iadaV {x : X} {t : Nat → V} {h : Hp} (len es : Nat) (a i : O) : aop x t h (.iada len es a i) = (iadaV len es (a.ev x t) (i.ev x t)).map fun v => .val v h := by
  simp only [aop, iadaV]
  generalize a.ev x t = u
  generalize i.ev x t = w
  cases u <;> cases w <;> first | rfl | (simp only []; split <;> rfl)
def idxaV (len es : Nat) (ag : Bool) : V → V → Option V
  | .agg cs, .int _ i => if 0 ≤ i ∧ i < len then (sub cs (i.toNat * es) es).bind (asV ag) else none
  | _, _ => none
theorem aop_idxaV {x : X} {t : Nat → V} {h : Hp} (len es : Nat) (ag : Bool) (a i : O) : aop x t h (.idxa len es ag a i) = (idxaV len es ag (a.ev x t) (i.ev x t)).map fun v => .val v h := by
  simp only [aop, idxaV]
  generalize a.ev x t = u
  generalize i.ev x t = w
  cases u <;> cases w <;> first | rfl | (simp only []; split <;> rfl)
theorem iada_ok {len es b o i : Nat} (hi : i < len) : iadaV len es (.ptr b o) (.int .i64 i) = some (.ptr b (o + i * es)) := by
  simp only [iadaV, Int.toNat_natCast]; rw [if_pos (by omega)]

/-- n integers of kind k. -/
def CK (k : IntKind) (n : Nat) (w : Nat → Int) : List V := (List.range n).map fun i => .int k (w i)
theorem CK_len (k : IntKind) (n : Nat) (w : Nat → Int) : (CK k n w).length = n := by simp [CK]
theorem CK_get {k : IntKind} {n : Nat} {w : Nat → Int} {i : Nat} (h : i < n) : (CK k n w)[i]? = some (.int k (w i)) := by simp [CK, h]
theorem CK_is (k : IntKind) (n : Nat) (w : Nat → Int) : isK k n (CK k n w) = true := cellsK_is' where
  cellsK_is' : isK k n (CK k n w) = true := isK_mk (CK_len ..) fun v hv => by
    simp only [CK, List.mem_map] at hv; obtain ⟨i, _, rfl⟩ := hv; exact ⟨_, rfl⟩
theorem CK_sub1 {k : IntKind} {n : Nat} {w : Nat → Int} {i : Nat} (h : i < n) : sub (CK k n w) i 1 = some [.int k (w i)] := by
  unfold sub
  rw [CK_len, if_pos (by omega)]
  congr 1
  refine List.ext_getElem? fun j => ?_
  rw [List.getElem?_take, List.getElem?_drop]
  match j with
  | 0 => simp [CK_get h]
  | j + 1 => simp
def upd1 (w : Nat → Int) (i : Nat) (x : Int) : Nat → Int := fun p => if p = i then x else w p
theorem CK_set {k : IntKind} {n : Nat} {w : Nat → Int} {i : Nat} {x : Int} : (CK k n w).set i (.int k x) = CK k n (upd1 w i x) := by
  refine List.ext_getElem? fun j => ?_
  rw [List.getElem?_set]
  by_cases hj : j < n
  · rw [CK_get hj, CK_len]
    by_cases e : i = j
    · subst e; rw [if_pos rfl, if_pos hj, CK_get hj]; simp [upd1]
    · rw [if_neg e, CK_get hj]; simp only [upd1]; rw [if_neg (fun h => e h.symm)]
  · have e1 : (CK k n w)[j]? = none := List.getElem?_eq_none (by rw [CK_len]; omega)
    have e2 : (CK k n (upd1 w i x))[j]? = none := List.getElem?_eq_none (by rw [CK_len]; omega)
    rw [e2, CK_len, e1]
    by_cases e : i = j
    · subst e; rw [if_pos rfl, if_neg hj]
    · rw [if_neg e]
theorem st_CK1 {h : Hp} {β n i : Nat} {k : IntKind} {w : Nat → Int} {ty : Option TypeId} {x : Int} (hg : hget h β = some (.cells (CK k n w) ty)) (hi : i < n) : stV h 1 (.ptr β i) (.int k x) = some (.skip (h.set β (some (.cells (CK k n (upd1 w i x)) ty)))) := by
  have hc : (V.int k x).cells = [.int k x] := rfl
  simp only [stV, hc, wr, hg]
  rw [if_pos ⟨rfl, by simp [V.one]⟩, if_pos (by rw [CK_len]; simp; omega)]
  simp [setAll, CK_set]
/-! ### one product more -/
def okT2 : Res → Bool
  | .ret (.tup [.int .u64 _, .int .u64 _]) => true
  | _ => false
def hiOf : Res → Int
  | .ret (.tup [.int .u64 a, .int .u64 _]) => a
  | _ => 0
def loOf : Res → Int
  | .ret (.tup [.int .u64 _, .int .u64 b]) => b
  | _ => 0
theorem mul64_ex (a b : Int) : ∃ hi, PCalls DX 35 [.int .u64 a, .int .u64 b] fun r => r = .ret (.tup [.int .u64 hi, .int .u64 (IntKind.u64.wrap (a * b))]) := by
  have h : (match K.evF DX C0 1000 35 [.int .u64 a, .int .u64 b] K.HT.nil with
    | some p => some (okT2 p.1, loOf p.1, Nat.beq p.2.n 0)
    | none => none) = some (true, IntKind.u64.wrap (a * b), true) := by kernel_rfl
  cases he : K.evF DX C0 1000 35 [.int .u64 a, .int .u64 b] K.HT.nil with
  | none => rw [he] at h; cases h
  | some p =>
    rw [he] at h
    simp only [Option.some.injEq, Prod.mk.injEq] at h
    obtain ⟨h1, h2, h3⟩ := h
    have := K.evF_pure DX.ok DX.low C0.ok (r := p.1) (h := p.2) he (K.nbeq h3)
    refine ⟨hiOf p.1, this.mono fun r h' hr => ⟨?_, hr.2⟩⟩
    rw [hr.1]
    unfold okT2 at h1
    split at h1
    · rename_i x y hp; rw [hp] at h2 ⊢; simp only [loOf, hiOf] at h2 ⊢; rw [h2]
    · cases h1
noncomputable def mulH (a b : Int) : Int := Classical.choose (mul64_ex a b)
theorem mul64 (a b : Int) : PCalls DX 35 [.int .u64 a, .int .u64 b] fun r => r = .ret (.tup [.int .u64 (mulH a b), .int .u64 (IntKind.u64.wrap (a * b))]) := Classical.choose_spec (mul64_ex a b)
theorem wrap_range (e : Int) : 0 ≤ IntKind.u64.wrap e ∧ IntKind.u64.wrap e < 18446744073709551616 := by
  show 0 ≤ e % (2 ^ 64 : Int) ∧ e % (2 ^ 64 : Int) < 18446744073709551616
  omega
/-! ### the double loop -/
theorem rd_all {h : Hp} {β n : Nat} {k : IntKind} {w : Nat → Int} {ty : Option TypeId} (hg : hget h β = some (.cells (CK k n w) ty)) : rd h (.ptr β 0) n = some (CK k n w) := by
  simp only [rd, hg]
  unfold sub
  rw [CK_len, if_pos (by omega)]
  rw [List.drop_zero, List.take_of_length_le (by rw [CK_len]; omega)]
theorem st_all {h : Hp} {β n : Nat} {old cs : List V} {ty : Option TypeId} (hg : hget h β = some (.cells old ty)) (hl : old.length = n) (hc : cs.length = n) (h1 : ∀ c ∈ cs, c.one = true) : stV h n (.ptr β 0) (.agg cs) = some (.skip (h.set β (some (.cells cs ty)))) := by
  have e : (V.agg cs).cells = cs := rfl
  simp only [stV, e, wr, hg]
  rw [if_pos ⟨hc, h1⟩, if_pos (by omega), setAll_eq _ _ _ (by omega), List.take_zero, List.drop_eq_nil_of_le (by omega), List.append_nil, List.nil_append]
  rfl
theorem rd_allc {h : Hp} {β n : Nat} {cs : List V} {ty : Option TypeId} (hg : hget h β = some (.cells cs ty)) (hl : cs.length = n) : rd h (.ptr β 0) n = some cs := by
  simp only [rd, hg]
  unfold sub
  rw [if_pos (by omega), List.drop_zero, List.take_of_length_le (by omega)]
theorem resV_c1 {t : Nat → V} {h : Hp} {a k : Nat} {cs : List V} (hr : rd h (t a) k = some cs) : resV [.c a k true] t h = some (.agg cs) := by
  simp only [resV, getAll, RV.get, hr, Option.bind_some, asV]
  rfl
theorem CK_one {k : IntKind} {n : Nat} {w : Nat → Int} : ∀ c ∈ CK k n w, c.one = true := fun c hc => by
  obtain ⟨i, _, rfl⟩ := List.mem_map.1 hc; rfl
/-! ### the carries -/
def adL (a c : Int) : Int := ((a.toNat + c.toNat + 0) % 2 ^ 64 : Nat)
def adC (a c : Int) : Int := ((a.toNat + c.toNat + 0) / 2 ^ 64 : Nat)
theorem adcV_0 (h : Hp) (a c : Int) : adcV h (.int .u64 a) (.int .u64 c) (.int .u64 0) = some (.val (.tup [.int .u64 (adL a c), .int .u64 (adC a c)]) h) := by
  simp only [adcV]; rw [if_pos (by decide)]; rfl
def aggOf : Res → List V
  | .ret (.agg c) => c
  | _ => []
theorem okA_agg {k : IntKind} {n : Nat} {r : Res} (h : okA k n r = true) : isK k n (aggOf r) = true ∧ r = .ret (.agg (aggOf r)) := by
  obtain ⟨c, h1, rfl⟩ := okA_spec h
  exact ⟨h1, rfl⟩
theorem pc_of {x : X} {f : FuncId} {args : List V} {k : IntKind} {n : Nat} (E : ∃ r, okA k n r = true ∧ PCalls x f args fun b => b = r) : isK k n (aggOf (Classical.choose E)) = true ∧ PCalls x f args fun b => b = .ret (.agg (aggOf (Classical.choose E))) := by
  have h := Classical.choose_spec E
  obtain ⟨h1, h2⟩ := okA_agg h.1
  refine ⟨h1, ?_⟩
  rw [← h2]
  exact h.2
theorem pc_of2 {x : X} {f : FuncId} {args args' : List V} {k : IntKind} {n : Nat} (E : ∃ r, okA k n r = true ∧ PCalls x f args fun b => b = r) (h : args' = args) : isK k n (aggOf (Classical.choose E)) = true ∧ PCalls x f args' fun b => b = .ret (.agg (aggOf (Classical.choose E))) := by
  subst h; exact pc_of E
end Go.Proofs.YtfinnljkcgglfaaDoor
