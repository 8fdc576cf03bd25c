/- limb's times, by hand: one answer. -/
import Derived.Test.YtfinnljkcgglfaaDoorZjA
import Derived.Test.YtfinnljkcgglfaaDoorZv6
import Derived.Test.YtfinnljkcgglfaaDoorZiAl1
set_option linter.unusedSimpArgs false
set_option linter.unusedVariables false
namespace Go.Proofs.YtfinnljkcgglfaaDoor
open Go Go.Vs Go.RowKit
set_option maxRecDepth 100000
set_option linter.unusedSimpArgs false
set_option linter.unusedVariables false

attribute [local simp] unV extV wanted strBin vpt vpn vmp nilV_ptr vic

def adcV (h : Hp) : V → V → V → Option Rz
  | .int .u64 a, .int .u64 b, .int .u64 c => if 0 ≤ c ∧ c ≤ 1 then some (.val (.tup [.int .u64 ((a.toNat + b.toNat + c.toNat) % 2 ^ 64 : Nat), .int .u64 ((a.toNat + b.toNat + c.toNat) / 2 ^ 64 : Nat)]) h) else none
  | _, _, _ => none
theorem aop_adcV {x : X} {t : Nat → V} {h : Hp} (a b c : O) : aop x t h (.j (.adc a b c)) = adcV h (a.ev x t) (b.ev x t) (c.ev x t) := rfl
def iadaV (len es : Nat) : V → V → Option V
  | .ptr b o, .int _ i => if 0 ≤ i ∧ i < len then some (.ptr b (o + i.toNat * es)) else none
  | .fp cs o, .int _ i => if 0 ≤ i ∧ i < len then some (.fp cs (o + i.toNat * es)) else none
  | _, _ => none
theorem aop_iadaV {x : X} {t : Nat → V} {h : Hp} (len es : Nat) (a i : O) : aop x t h (.iada len es a i) = (iadaV len es (a.ev x t) (i.ev x t)).map fun v => .val v h := by
  simp only [aop, iadaV]
  generalize a.ev x t = u
  generalize i.ev x t = w
  cases u <;> cases w <;> first | rfl | (simp only []; split <;> rfl)
def idxaV (len es : Nat) (ag : Bool) : V → V → Option V
  | .agg cs, .int _ i => if 0 ≤ i ∧ i < len then (sub cs (i.toNat * es) es).bind (asV ag) else none
  | _, _ => none
theorem aop_idxaV {x : X} {t : Nat → V} {h : Hp} (len es : Nat) (ag : Bool) (a i : O) : aop x t h (.idxa len es ag a i) = (idxaV len es ag (a.ev x t) (i.ev x t)).map fun v => .val v h := by
  simp only [aop, idxaV]
  generalize a.ev x t = u
  generalize i.ev x t = w
  cases u <;> cases w <;> first | rfl | (simp only []; split <;> rfl)
theorem iada_ok {len es b o i : Nat} (hi : i < len) : iadaV len es (.ptr b o) (.int .i64 i) = some (.ptr b (o + i * es)) := by
  simp only [iadaV, Int.toNat_natCast]; rw [if_pos (by omega)]

/-- n integers of kind k. -/
def CK (k : IntKind) (n : Nat) (w : Nat → Int) : List V := (List.range n).map fun i => .int k (w i)
theorem CK_len (k : IntKind) (n : Nat) (w : Nat → Int) : (CK k n w).length = n := by simp [CK]
theorem CK_get {k : IntKind} {n : Nat} {w : Nat → Int} {i : Nat} (h : i < n) : (CK k n w)[i]? = some (.int k (w i)) := by simp [CK, h]
theorem CK_is (k : IntKind) (n : Nat) (w : Nat → Int) : isK k n (CK k n w) = true := cellsK_is' where
  cellsK_is' : isK k n (CK k n w) = true := isK_mk (CK_len ..) fun v hv => by
    simp only [CK, List.mem_map] at hv; obtain ⟨i, _, rfl⟩ := hv; exact ⟨_, rfl⟩
theorem CK_sub1 {k : IntKind} {n : Nat} {w : Nat → Int} {i : Nat} (h : i < n) : sub (CK k n w) i 1 = some [.int k (w i)] := by
  unfold sub
  rw [CK_len, if_pos (by omega)]
  congr 1
  refine List.ext_getElem? fun j => ?_
  rw [List.getElem?_take, List.getElem?_drop]
  match j with
  | 0 => simp [CK_get h]
  | j + 1 => simp
theorem CK_sub2 {k : IntKind} {n : Nat} {w : Nat → Int} {i : Nat} (h : i + 1 < n) : sub (CK k n w) i 2 = some [.int k (w i), .int k (w (i + 1))] := by
  unfold sub
  rw [CK_len, if_pos (by omega)]
  congr 1
  refine List.ext_getElem? fun j => ?_
  rw [List.getElem?_take, List.getElem?_drop]
  match j with
  | 0 => simp [CK_get (show i < n by omega)]
  | 1 => simp [CK_get h]
  | j + 2 => rw [if_neg (by omega)]; rfl
def upd1 (w : Nat → Int) (i : Nat) (x : Int) : Nat → Int := fun p => if p = i then x else w p
theorem CK_set {k : IntKind} {n : Nat} {w : Nat → Int} {i : Nat} {x : Int} : (CK k n w).set i (.int k x) = CK k n (upd1 w i x) := by
  refine List.ext_getElem? fun j => ?_
  rw [List.getElem?_set]
  by_cases hj : j < n
  · rw [CK_get hj, CK_len]
    by_cases e : i = j
    · subst e; rw [if_pos rfl, if_pos hj, CK_get hj]; simp [upd1]
    · rw [if_neg e, CK_get hj]; simp only [upd1]; rw [if_neg (fun h => e h.symm)]
  · have e1 : (CK k n w)[j]? = none := List.getElem?_eq_none (by rw [CK_len]; omega)
    have e2 : (CK k n (upd1 w i x))[j]? = none := List.getElem?_eq_none (by rw [CK_len]; omega)
    rw [e2, CK_len, e1]
    by_cases e : i = j
    · subst e; rw [if_pos rfl, if_neg hj]
    · rw [if_neg e]
theorem st_CK1 {h : Hp} {β n i : Nat} {k : IntKind} {w : Nat → Int} {ty : Option TypeId} {x : Int} (hg : hget h β = some (.cells (CK k n w) ty)) (hi : i < n) : stV h 1 (.ptr β i) (.int k x) = some (.skip (h.set β (some (.cells (CK k n (upd1 w i x)) ty)))) := by
  have hc : (V.int k x).cells = [.int k x] := rfl
  simp only [stV, hc, wr, hg]
  rw [if_pos ⟨rfl, by simp [V.one]⟩, if_pos (by rw [CK_len]; simp; omega)]
  simp [setAll, CK_set]
theorem st_CK2 {h : Hp} {β n i : Nat} {k : IntKind} {w : Nat → Int} {ty : Option TypeId} {x y : Int} (hg : hget h β = some (.cells (CK k n w) ty)) (hi : i + 1 < n) : stV h 2 (.ptr β i) (.agg [.int k x, .int k y]) = some (.skip (h.set β (some (.cells (CK k n (upd1 (upd1 w i x) (i + 1) y)) ty)))) := by
  have hc : (V.agg [.int k x, .int k y]).cells = [.int k x, .int k y] := rfl
  simp only [stV, hc, wr, hg]
  rw [if_pos ⟨rfl, by simp [V.one]⟩, if_pos (by rw [CK_len]; simp; omega)]
  simp [setAll, CK_set]

/-! ### one product more -/
def okT2 : Res → Bool
  | .ret (.tup [.int .u64 _, .int .u64 _]) => true
  | _ => false
def hiOf : Res → Int
  | .ret (.tup [.int .u64 a, .int .u64 _]) => a
  | _ => 0
def loOf : Res → Int
  | .ret (.tup [.int .u64 _, .int .u64 b]) => b
  | _ => 0
theorem mul64_ex (a b : Int) : ∃ hi, PCalls DX 35 [.int .u64 a, .int .u64 b] fun r => r = .ret (.tup [.int .u64 hi, .int .u64 (IntKind.u64.wrap (a * b))]) := by
  have h : (match K.evF DX C0 1000 35 [.int .u64 a, .int .u64 b] K.HT.nil with
    | some p => some (okT2 p.1, loOf p.1, Nat.beq p.2.n 0)
    | none => none) = some (true, IntKind.u64.wrap (a * b), true) := by kernel_rfl
  cases he : K.evF DX C0 1000 35 [.int .u64 a, .int .u64 b] K.HT.nil with
  | none => rw [he] at h; cases h
  | some p =>
    rw [he] at h
    simp only [Option.some.injEq, Prod.mk.injEq] at h
    obtain ⟨h1, h2, h3⟩ := h
    have := K.evF_pure DX.ok DX.low C0.ok (r := p.1) (h := p.2) he (K.nbeq h3)
    refine ⟨hiOf p.1, this.mono fun r h' hr => ⟨?_, hr.2⟩⟩
    rw [hr.1]
    unfold okT2 at h1
    split at h1
    · rename_i x y hp; rw [hp] at h2 ⊢; simp only [loOf, hiOf] at h2 ⊢; rw [h2]
    · cases h1
noncomputable def mulH (a b : Int) : Int := Classical.choose (mul64_ex a b)
theorem mul64 (a b : Int) : PCalls DX 35 [.int .u64 a, .int .u64 b] fun r => r = .ret (.tup [.int .u64 (mulH a b), .int .u64 (IntKind.u64.wrap (a * b))]) := Classical.choose_spec (mul64_ex a b)
def moC (w1 a b : Int) : Nat := (w1.toNat + (IntKind.u64.wrap (a * b)).toNat + 0) / 2 ^ 64
def moL (w1 a b : Int) : Int := ((w1.toNat + (IntKind.u64.wrap (a * b)).toNat + 0) % 2 ^ 64 : Nat)
noncomputable def moH (w0 w1 a b : Int) : Int := ((w0.toNat + (mulH a b).toNat + (moC w1 a b : Int).toNat) % 2 ^ 64 : Nat)
theorem wrap_range (e : Int) : 0 ≤ IntKind.u64.wrap e ∧ IntKind.u64.wrap e < 18446744073709551616 := by
  show 0 ≤ e % (2 ^ 64 : Int) ∧ e % (2 ^ 64 : Int) < 18446744073709551616
  omega
theorem more_spec {w0 w1 a b : Int} (hw : w1 < 18446744073709551616) : PCalls DX 104 [.agg [.int .u64 w0, .int .u64 w1], .int .u64 a, .int .u64 b] fun r => r = .ret (.agg [.int .u64 (moH w0 w1 a b), .int .u64 (moL w1 a b)]) := by
  refine PCalls.of (acall DX.ok ck104 rfl ?_) fun r hr => by subst hr; exact .agg _ (by simp; exact ⟨.int _ _, .int _ _⟩)
  have hr := wrap_range (a * b)
  have hc : (0 : Int) ≤ (moC w1 a b : Int) ∧ (moC w1 a b : Int) ≤ 1 := by unfold moC; omega
  have hc1 : adcV [some (.cells [.int .u64 w0, .int .u64 w1] none), some (.cells [.int .u64 0, .int .u64 0] none)] (.int .u64 w1) (.int .u64 (IntKind.u64.wrap (a * b))) (.int .u64 0) = some (.val (.tup [.int .u64 (moL w1 a b), .int .u64 (moC w1 a b)]) [some (.cells [.int .u64 w0, .int .u64 w1] none), some (.cells [.int .u64 0, .int .u64 0] none)]) := rfl
  have hc2 : ∀ h, adcV h (.int .u64 w0) (.int .u64 (mulH a b)) (.int .u64 (moC w1 a b)) = some (.val (.tup [.int .u64 (moH w0 w1 a b), .int .u64 ((w0.toNat + (mulH a b).toNat + (moC w1 a b : Int).toNat) / 2 ^ 64 : Nat)]) h) := fun h => by
    simp only [adcV]; rw [if_pos hc]; rfl
  simp [F104, V.cells, V.one]
  refine (PCalls.at DX.low (mul64 a b) (fun v hv => by simp at hv; rcases hv with rfl | rfl <;> exact .int _ _) _).mono ?_
  rintro r h' ⟨rfl, rfl⟩
  simp [fadV, rd, hget, sub, asV, aop_adcV, hc1, hc2, setAll, V.cells, V.one, stV, wr, fillV]
  rfl

/-! ### the double loop -/
def RW (w : Nat → Int) : Prop := ∀ p, w p < 18446744073709551616
theorem moL_lt (w1 a b : Int) : moL w1 a b < 18446744073709551616 := by unfold moL; omega
theorem moH_lt (w0 w1 a b : Int) : moH w0 w1 a b < 18446744073709551616 := by unfold moH; omega
/-- One product more, into its place. -/
noncomputable def stepW (A B : Nat → Int) (w : Nat → Int) (i k : Nat) : Nat → Int :=
  if 5 ≤ i + k then upd1 (upd1 w (2 * (i + k - 5)) (moH (w (2 * (i + k - 5))) (w (2 * (i + k - 5) + 1)) (A i) (IntKind.u64.wrap (B k * 19)))) (2 * (i + k - 5) + 1) (moL (w (2 * (i + k - 5) + 1)) (A i) (IntKind.u64.wrap (B k * 19)))
  else upd1 (upd1 w (2 * (i + k)) (moH (w (2 * (i + k))) (w (2 * (i + k) + 1)) (A i) (B k))) (2 * (i + k) + 1) (moL (w (2 * (i + k) + 1)) (A i) (B k))
theorem upd1_RW {w : Nat → Int} {i : Nat} {x : Int} (h : RW w) (hx : x < 18446744073709551616) : RW (upd1 w i x) := fun p => by
  unfold upd1; split
  · exact hx
  · exact h p
theorem stepW_RW {A B w : Nat → Int} {i k : Nat} (h : RW w) : RW (stepW A B w i k) := by
  unfold stepW; split
  · exact upd1_RW (upd1_RW h (moH_lt ..)) (moL_lt ..)
  · exact upd1_RW (upd1_RW h (moH_lt ..)) (moL_lt ..)
noncomputable def WI (A B : Nat → Int) (w : Nat → Int) (i : Nat) : Nat → (Nat → Int)
  | 0 => w
  | k + 1 => stepW A B (WI A B w i k) i k
theorem WI_RW {A B w : Nat → Int} {i : Nat} (h : RW w) : ∀ k, RW (WI A B w i k)
  | 0 => h
  | k + 1 => stepW_RW (WI_RW h k)
noncomputable def WO (A B : Nat → Int) : Nat → (Nat → Int)
  | 0 => fun _ => 0
  | i + 1 => WI A B (WO A B i) i 5
theorem WO_RW {A B : Nat → Int} : ∀ i, RW (WO A B i)
  | 0 => fun p => by show (0 : Int) < _; omega
  | i + 1 => WI_RW (WO_RW i) 5

def HT5 (A B w : Nat → Int) : Hp := [some (.cells (CK .u64 5 A) none), some (.cells (CK .u64 5 B) none), some (.cells [.int .u64 0, .int .u64 0, .int .u64 0, .int .u64 0, .int .u64 0] none), some (.cells (CK .u64 10 w) none)]
def iOut (A B : Nat → Int) (k : Nat) (st : St) : Prop := ∃ i, k + i = 5 ∧ st.d = [] ∧ st.h = HT5 A B (WO A B i) ∧ st.t 2 = .ptr 0 0 ∧ st.t 3 = .ptr 1 0 ∧ st.t 4 = .ptr 2 0 ∧ st.t 5 = .ptr 3 0 ∧ st.t 20 = .agg (CK .u64 5 A) ∧ st.t 21 = .int .i64 i
def iIn (A B : Nat → Int) (i : Nat) (m : Nat) (st : St) : Prop := ∃ k, m + k = 5 ∧ st.d = [] ∧ st.h = HT5 A B (WI A B (WO A B i) i k) ∧ st.t 2 = .ptr 0 0 ∧ st.t 3 = .ptr 1 0 ∧ st.t 4 = .ptr 2 0 ∧ st.t 5 = .ptr 3 0 ∧ st.t 20 = .agg (CK .u64 5 A) ∧ st.t 21 = .int .i64 i ∧ st.t 6 = .int .i64 i ∧ st.t 7 = .int .u64 (A i) ∧ st.t 25 = .agg (CK .u64 5 B) ∧ st.t 26 = .int .i64 k
theorem rd_all {h : Hp} {β n : Nat} {k : IntKind} {w : Nat → Int} {ty : Option TypeId} (hg : hget h β = some (.cells (CK k n w) ty)) : rd h (.ptr β 0) n = some (CK k n w) := by
  simp only [rd, hg]
  unfold sub
  rw [CK_len, if_pos (by omega)]
  rw [List.drop_zero, List.take_of_length_le (by rw [CK_len]; omega)]
theorem st_all {h : Hp} {β n : Nat} {old cs : List V} {ty : Option TypeId} (hg : hget h β = some (.cells old ty)) (hl : old.length = n) (hc : cs.length = n) (h1 : ∀ c ∈ cs, c.one = true) : stV h n (.ptr β 0) (.agg cs) = some (.skip (h.set β (some (.cells cs ty)))) := by
  have e : (V.agg cs).cells = cs := rfl
  simp only [stV, e, wr, hg]
  rw [if_pos ⟨hc, h1⟩, if_pos (by omega), setAll_eq _ _ _ (by omega), List.take_zero, List.drop_eq_nil_of_le (by omega), List.append_nil, List.nil_append]
  rfl
theorem rd_allc {h : Hp} {β n : Nat} {cs : List V} {ty : Option TypeId} (hg : hget h β = some (.cells cs ty)) (hl : cs.length = n) : rd h (.ptr β 0) n = some cs := by
  simp only [rd, hg]
  unfold sub
  rw [if_pos (by omega), List.drop_zero, List.take_of_length_le (by omega)]
theorem resV_c1 {t : Nat → V} {h : Hp} {a k : Nat} {cs : List V} (hr : rd h (t a) k = some cs) : resV [.c a k true] t h = some (.agg cs) := by
  simp only [resV, getAll, RV.get, hr, Option.bind_some, asV]
  rfl
theorem CK_one {k : IntKind} {n : Nat} {w : Nat → Int} : ∀ c ∈ CK k n w, c.one = true := fun c hc => by
  obtain ⟨i, _, rfl⟩ := List.mem_map.1 hc; rfl
theorem rdc0 {l : Hp} {n : Nat} {k : IntKind} {w : Nat → Int} {ty : Option TypeId} : rd (some (.cells (CK k n w) ty) :: l) (.ptr 0 0) n = some (CK k n w) := rd_all rfl
theorem rdH0 (A B w : Nat → Int) : rd (HT5 A B w) (.ptr 0 0) 5 = some (CK .u64 5 A) := rd_all rfl
theorem rdH1 (A B w : Nat → Int) : rd (HT5 A B w) (.ptr 1 0) 5 = some (CK .u64 5 B) := rd_all rfl
theorem rdH3 (A B w : Nat → Int) {p : Nat} (hp : p < 5) : rd (HT5 A B w) (.ptr 3 (p * 2)) 2 = some [.int .u64 (w (2 * p)), .int .u64 (w (2 * p + 1))] := by
  show sub (CK .u64 10 w) (p * 2) 2 = _
  rw [Nat.mul_comm p 2]
  exact CK_sub2 (by omega)
theorem stH3 (A B w : Nat → Int) {p : Nat} (hp : p < 5) (x y : Int) : stV (HT5 A B w) 2 (.ptr 3 (p * 2)) (.agg [.int .u64 x, .int .u64 y]) = some (.skip (HT5 A B (upd1 (upd1 w (2 * p) x) (2 * p + 1) y))) := by
  rw [Nat.mul_comm p 2]
  rw [st_CK2 (h := HT5 A B w) (n := 10) (k := .u64) (w := w) (ty := none) rfl (by omega)]
  rfl
theorem idxE {A : Nat → Int} {i : Nat} (hi : i < 5) : idxaV 5 1 false (.agg (CK .u64 5 A)) (.int .i64 i) = some (.int .u64 (A i)) := by
  simp only [idxaV, Int.toNat_natCast, Nat.mul_one]
  rw [if_pos (by omega), CK_sub1 hi]
  rfl
theorem iadaW {i : Nat} (hi : i < 5) : iadaV 5 2 (.ptr 3 0) (.int .i64 i) = some (.ptr 3 (i * 2)) := by rw [iada_ok (by omega), Nat.zero_add]

set_option maxHeartbeats 2000000 in
theorem inner (A B : Nat → Int) {i k : Nat} (hi : i < 5) (hk : k < 5) : stepW A B (WI A B (WO A B i) i k) i k = WI A B (WO A B i) i (k + 1) := rfl
/-! ### the carries -/
def adL (a c : Int) : Int := ((a.toNat + c.toNat + 0) % 2 ^ 64 : Nat)
def adC (a c : Int) : Int := ((a.toNat + c.toNat + 0) / 2 ^ 64 : Nat)
theorem adcV_0 (h : Hp) (a c : Int) : adcV h (.int .u64 a) (.int .u64 c) (.int .u64 0) = some (.val (.tup [.int .u64 (adL a c), .int .u64 (adC a c)]) h) := by
  simp only [adcV]; rw [if_pos (by decide)]; rfl
def anE (x : Int) : Int := IntKind.u64.wrap (((x % 2 ^ IntKind.u64.bits).toNat &&& 2251799813685247 % 2 ^ IntKind.u64.bits : Nat) : Int)
def shO (h l : Int) : Int := IntKind.u64.wrap (((IntKind.u64.wrap (h * 2 ^ min 13 IntKind.u64.bits) % 2 ^ IntKind.u64.bits).toNat ||| (l.fdiv (2 ^ min 51 IntKind.u64.bits) % 2 ^ IntKind.u64.bits).toNat : Nat) : Int)
noncomputable def oS (A B : Nat → Int) : Nat → (Nat → Int) × Int
  | 0 => (fun _ => 0, 0)
  | i + 1 => (upd1 (oS A B i).1 i (anE (adL (WO A B 5 (2 * i + 1)) (oS A B i).2)), shO (IntKind.u64.wrap (WO A B 5 (2 * i) + adC (WO A B 5 (2 * i + 1)) (oS A B i).2)) (adL (WO A B 5 (2 * i + 1)) (oS A B i).2))
theorem car_ex (a : List V) : ∃ r, okA .u64 5 r = true ∧ PCalls DX 103 [.agg (E5 a)] fun b => b = r := ex_of DX.ok DX.low C0.ok (n := 3000) (by kernel_rfl)
def aggOf : Res → List V
  | .ret (.agg c) => c
  | _ => []
theorem okA_agg {k : IntKind} {n : Nat} {r : Res} (h : okA k n r = true) : isK k n (aggOf r) = true ∧ r = .ret (.agg (aggOf r)) := by
  obtain ⟨c, h1, rfl⟩ := okA_spec h
  exact ⟨h1, rfl⟩
theorem pc_of {x : X} {f : FuncId} {args : List V} {k : IntKind} {n : Nat} (E : ∃ r, okA k n r = true ∧ PCalls x f args fun b => b = r) : isK k n (aggOf (Classical.choose E)) = true ∧ PCalls x f args fun b => b = .ret (.agg (aggOf (Classical.choose E))) := by
  have h := Classical.choose_spec E
  obtain ⟨h1, h2⟩ := okA_agg h.1
  refine ⟨h1, ?_⟩
  rw [← h2]
  exact h.2
theorem pc_of2 {x : X} {f : FuncId} {args args' : List V} {k : IntKind} {n : Nat} (E : ∃ r, okA k n r = true ∧ PCalls x f args fun b => b = r) (h : args' = args) : isK k n (aggOf (Classical.choose E)) = true ∧ PCalls x f args' fun b => b = .ret (.agg (aggOf (Classical.choose E))) := by
  subst h; exact pc_of E
noncomputable def carF (a : List V) : List V := aggOf (Classical.choose (car_ex a))
theorem car_spec (o : Nat → Int) : isK .u64 5 (carF (CK .u64 5 o)) = true ∧ PCalls DX 103 [.agg (CK .u64 5 o)] fun b => b = .ret (.agg (carF (CK .u64 5 o))) := by
  exact pc_of2 (car_ex (CK .u64 5 o)) (by rw [E5_id (CK_is ..)])
noncomputable def loT (A B : Nat → Int) : Int := adL (IntKind.u64.wrap ((oS A B 5).2 * 19)) ((oS A B 5).1 0)
noncomputable def hiT (A B : Nat → Int) : Int := IntKind.u64.wrap (mulH (oS A B 5).2 19 + adC (IntKind.u64.wrap ((oS A B 5).2 * 19)) ((oS A B 5).1 0))
noncomputable def finO (A B : Nat → Int) : Nat → Int := upd1 (upd1 (oS A B 5).1 0 (anE (loT A B))) 1 (IntKind.u64.wrap (upd1 (oS A B 5).1 0 (anE (loT A B)) 1 + shO (hiT A B) (loT A B)))
noncomputable def HT6 (A B o : Nat → Int) : Hp := HT5 A B (WO A B 5) ++ [some (.cells (CK .u64 5 o) none)]
def iTwo (A B : Nat → Int) (m : Nat) (st : St) : Prop := ∃ i, m + i = 5 ∧ st.d = [] ∧ st.h = HT6 A B (oS A B i).1 ∧ st.t 4 = .ptr 2 0 ∧ st.t 5 = .ptr 3 0 ∧ st.t 11 = .ptr 4 0 ∧ st.t 12 = .int .u64 (oS A B i).2 ∧ st.t 49 = .int .i64 i
set_option maxHeartbeats 2000000 in
theorem times_run (A B : Nat → Int) : ACalls DX 102 [.agg (CK .u64 5 A), .agg (CK .u64 5 B)] [] fun r _ => r = .ret (.agg (carF (CK .u64 5 (finO A B)))) := by
  refine acall DX.ok ck102 rfl ?_
  simp [F102, V.cells, eq_true (@CK_one .u64 5 A), eq_true (@CK_one .u64 5 B), rdc0, asV]
  refine vc_loop _ _ _ (iOut A B) 5 ⟨0, by simp, by simp, rfl, by simp, by simp, by simp, by simp, by simp, by simp⟩ ?_
  rintro m ⟨t, h, d⟩ ⟨i, hm, hd, hh, t2, t3, t4, t5, t20, t21⟩
  simp only at hd hh t2 t3 t4 t5 t20 t21
  subst hd hh
  by_cases hi : i < 5
  · have hi1 : (i : Int) < 5 := by omega
    have hi2 : ¬ (5 : Int) ≤ i := by omega
    simp [t20, t21, t3, hi, hi1, hi2, aop_idxaV, idxE hi, rdH1, asV]
    refine vc_loop _ _ _ (iIn A B i) 5 ⟨0, by simp, by simp, rfl, by simp [t2], by simp [t3], by simp [t4], by simp [t5], by simp [t20], by simp [t21], by simp, by simp, by simp, by simp⟩ ?_
    clear t2 t3 t4 t5 t20 t21
    rintro m2 ⟨t, h, d⟩ ⟨k, hm2, hd, hh, t2, t3, t4, t5, t20, t21, t6, t7, t25, t26⟩
    simp only at hd hh t2 t3 t4 t5 t20 t21 t6 t7 t25 t26
    subst hd hh
    by_cases hk : k < 5
    · have hk1 : (k : Int) < 5 := by omega
      have hk2 : ¬ (5 : Int) ≤ k := by omega
      have w3 : IntKind.i64.wrap ((k : Int) + 1) = (k : Int) + 1 := by rw [wrap64 (by omega) (by omega)]
      obtain ⟨p, hp⟩ : ∃ p, p = i + k := ⟨_, rfl⟩
      have w1 : IntKind.i64.wrap ((i : Int) + k) = (p : Int) := by rw [wrap64 (by omega) (by omega)]; omega
      by_cases hik : 5 ≤ p
      · have hik1 : (5 : Int) ≤ (p : Int) := by omega
        have hik2 : ¬ (p : Int) < 5 := by omega
        obtain ⟨q, hq⟩ : ∃ q, p = q + 5 := ⟨p - 5, by omega⟩
        have w2 : IntKind.i64.wrap ((p : Int) - 5) = (q : Int) := by rw [wrap64 (by omega) (by omega)]; omega
        have ia := iadaW (i := q) (by omega)
        have hr := rdH3 A B (WI A B (WO A B i) i k) (p := q) (by omega)
        simp [t25, t26, hk, hk1, hk2, aop_idxaV, idxE hk, t6, t7, w1, hik, hik1, hik2, w2, aop_iadaV, t5, ia, hr, asV]
        refine (PCalls.at DX.low (more_spec (w0 := WI A B (WO A B i) i k (2 * q)) (w1 := WI A B (WO A B i) i k (2 * q + 1)) (a := A i) (b := IntKind.u64.wrap (B k * 19)) (WI_RW (WO_RW i) k _)) (fun v hv => by simp at hv; rcases hv with rfl | rfl | rfl <;> first | exact .int _ _ | exact .agg _ (by simp; exact ⟨.int _ _, .int _ _⟩)) _).mono ?_
        rintro r h' ⟨rfl, rfl⟩
        simp [aop_iadaV, t5, ia, stH3 A B _ (p := q) (by omega), t26, w3]
        refine ⟨m2 - 1, by omega, k + 1, by omega, rfl, ?_, by simp [t2], by simp [t3], by simp [t4], by simp [t5], by simp [t20], by simp [t21], by simp [t6], by simp [t7], by simp [t25], by simp⟩
        show HT5 A B _ = HT5 A B (stepW A B _ i k)
        unfold stepW
        rw [if_pos (by omega), show i + k - 5 = q by omega]
      · have hik1 : ¬ (5 : Int) ≤ (p : Int) := by omega
        have hik2 : (p : Int) < 5 := by omega
        have hik3 : p < 5 := by omega
        have ia := iadaW (i := p) (by omega)
        have hr := rdH3 A B (WI A B (WO A B i) i k) (p := p) (by omega)
        simp [t25, t26, hk, hk1, hk2, aop_idxaV, idxE hk, t6, t7, w1, hik, hik1, hik2, hik3, aop_iadaV, t5, ia, hr, asV]
        refine (PCalls.at DX.low (more_spec (w0 := WI A B (WO A B i) i k (2 * p)) (w1 := WI A B (WO A B i) i k (2 * p + 1)) (a := A i) (b := B k) (WI_RW (WO_RW i) k _)) (fun v hv => by simp at hv; rcases hv with rfl | rfl | rfl <;> first | exact .int _ _ | exact .agg _ (by simp; exact ⟨.int _ _, .int _ _⟩)) _).mono ?_
        rintro r h' ⟨rfl, rfl⟩
        simp [aop_iadaV, t5, ia, stH3 A B _ (p := p) (by omega), t26, w3]
        refine ⟨m2 - 1, by omega, k + 1, by omega, rfl, ?_, by simp [t2], by simp [t3], by simp [t4], by simp [t5], by simp [t20], by simp [t21], by simp [t6], by simp [t7], by simp [t25], by simp⟩
        show HT5 A B _ = HT5 A B (stepW A B _ i k)
        unfold stepW
        rw [if_neg (by omega), show i + k = p by omega]
    · have hk5 : k = 5 := by omega
      subst hk5
      have w3 : IntKind.i64.wrap ((i : Int) + 1) = (i : Int) + 1 := by rw [wrap64 (by omega) (by omega)]
      simp [t26, t21, w3]
      exact ⟨m - 1, by omega, i + 1, by omega, rfl, rfl, by simp [t2], by simp [t3], by simp [t4], by simp [t5], by simp [t20], by simp⟩
  · have hi5 : i = 5 := by omega
    subst hi5
    simp [t21]
    refine vc_loop _ _ _ (iTwo A B) 5 ⟨0, by simp, by simp, rfl, by simp [t4], by simp [t5], by simp [HT5], by simp [oS], by simp⟩ ?_
    clear t2 t3 t4 t5 t20 t21
    rintro m ⟨t, h, d⟩ ⟨i, hm, hd, hh, t4, t5, t11, t12, t49⟩
    simp only at hd hh t4 t5 t11 t12 t49
    subst hd hh
    by_cases hi : i < 5
    · have hi1 : (i : Int) < 5 := by omega
      have hi2 : ¬ (5 : Int) ≤ i := by omega
      have ia := iadaW (i := i) (by omega)
      have ib : iadaV 5 1 (.ptr 4 0) (.int .i64 i) = some (.ptr 4 i) := by rw [iada_ok (by omega)]; simp
      have r1 : rd (HT6 A B (oS A B i).1) (.ptr 3 (i * 2 + 1)) 1 = some [.int .u64 (WO A B 5 (2 * i + 1))] := by
        show sub (CK .u64 10 _) (i * 2 + 1) 1 = _
        rw [Nat.mul_comm]; exact CK_sub1 (by omega)
      have r0 : rd (HT6 A B (oS A B i).1) (.ptr 3 (i * 2)) 1 = some [.int .u64 (WO A B 5 (2 * i))] := by
        show sub (CK .u64 10 _) (i * 2) 1 = _
        rw [Nat.mul_comm]; exact CK_sub1 (by omega)
      have s1 : ∀ y, stV (HT6 A B (oS A B i).1) 1 (.ptr 4 i) (.int .u64 y) = some (.skip (HT6 A B (upd1 (oS A B i).1 i y))) := fun y => by
        rw [st_CK1 (h := HT6 A B (oS A B i).1) (n := 5) (k := .u64) (w := (oS A B i).1) (ty := none) rfl hi]; rfl
      have w3 : IntKind.i64.wrap ((i : Int) + 1) = (i : Int) + 1 := by rw [wrap64 (by omega) (by omega)]
      have a1 := adcV_0 (HT6 A B (oS A B i).1) (WO A B 5 (2 * i + 1)) (oS A B i).2
      simp [t49, hi, hi1, hi2, aop_iadaV, t5, ia, fadV, r1, r0, asV, t12, aop_adcV, a1, t11, ib, s1, w3]
      exact ⟨m - 1, by omega, i + 1, by omega, rfl, rfl, by simp [t4], by simp [t5], by simp [t11], by simp [oS, shO], by simp⟩
    · have hi5 : i = 5 := by omega
      subst hi5
      simp [t49, t12]
      refine (PCalls.at DX.low (mul64 (oS A B 5).2 19) (fun v hv => by simp at hv; rcases hv with rfl | rfl <;> exact .int _ _) _).mono ?_
      rintro r h' ⟨rfl, rfl⟩
      have t4' := t4
      have ia0 : iadaV 5 1 (.ptr 4 0) (.int .i64 0) = some (.ptr 4 0) := rfl
      have ia1 : iadaV 5 1 (.ptr 4 0) (.int .i64 1) = some (.ptr 4 1) := rfl
      have r0 : ∀ o, rd (HT6 A B o) (.ptr 4 0) 1 = some [.int .u64 (o 0)] := fun o => CK_sub1 (by omega)
      have r1 : ∀ o, rd (HT6 A B o) (.ptr 4 1) 1 = some [.int .u64 (o 1)] := fun o => CK_sub1 (by omega)
      have s0 : ∀ o y, stV (HT6 A B o) 1 (.ptr 4 0) (.int .u64 y) = some (.skip (HT6 A B (upd1 o 0 y))) := fun o y => by
        rw [st_CK1 (h := HT6 A B o) (n := 5) (k := .u64) (w := o) (ty := none) rfl (by omega)]; rfl
      have s1 : ∀ o y, stV (HT6 A B o) 1 (.ptr 4 1) (.int .u64 y) = some (.skip (HT6 A B (upd1 o 1 y))) := fun o y => by
        rw [st_CK1 (h := HT6 A B o) (n := 5) (k := .u64) (w := o) (ty := none) rfl (by omega)]; rfl
      have r5 : ∀ o, rd (HT6 A B o) (.ptr 4 0) 5 = some (CK .u64 5 o) := fun o => rd_all rfl
      have a1 := adcV_0 (HT6 A B (oS A B 5).1) (IntKind.u64.wrap ((oS A B 5).2 * 19)) ((oS A B 5).1 0)
      simp [aop_iadaV, t11, ia0, ia1, r0, r1, s0, s1, aop_adcV, a1, asV, r5]
      refine (PCalls.at DX.low (car_spec (finO A B)).2 (fun v hv => by simp at hv; subst hv; exact .agg _ (isK_low (CK_is ..))) _).mono ?_
      rintro r h' ⟨rfl, rfl⟩
      have hk := (car_spec (finO A B)).1
      have hl : (carF (CK .u64 5 (finO A B))).length = 5 := isK_len hk
      have ho : ∀ c ∈ carF (CK .u64 5 (finO A B)), c.one = true := fun c hc => by obtain ⟨n, rfl⟩ := isK_all hk c hc; rfl
      have sA : stV (HT6 A B (finO A B)) 5 (.ptr 2 0) (.agg (carF (CK .u64 5 (finO A B)))) = some (.skip ((HT6 A B (finO A B)).set 2 (some (.cells (carF (CK .u64 5 (finO A B))) none)))) := st_all (old := [.int .u64 0, .int .u64 0, .int .u64 0, .int .u64 0, .int .u64 0]) rfl rfl hl ho
      have hx : HT6 A B (finO A B) = HT6 A B (finO A B) := rfl
      generalize hF : carF (CK .u64 5 (finO A B)) = cF at hk hl ho sA ⊢
      unfold finO loT hiT anE shO at sA
      simp [t4, sA]
      refine resV_c1 ?_
      simp [t4]
      exact rd_allc rfl hl
end Go.Proofs.YtfinnljkcgglfaaDoor
namespace Go.Proofs.YtfinnljkcgglfaaDoor
open Go Go.Vs Go.RowKit
set_option maxRecDepth 100000
set_option linter.unusedSimpArgs false
set_option linter.unusedVariables false
attribute [local simp] unV extV wanted strBin vpt vpn vmp nilV_ptr vic vsn

/-- A frozen row. -/
def ccV (xs : List V) : V := if xs = [] then .nsl else .lst false xs
def capV (h : Hp) : V → Option Rz
  | .nsl => some (.val (.int .i64 0) h)
  | .sl _ _ _ cap ex _ _ => if ex then some (.val (.int .i64 cap) h) else none
  | .lst ex xs => if ex then some (.val (.int .i64 xs.length) h) else none
  | _ => none
theorem aop_capN {x : X} {t : Nat → V} {h : Hp} (a : O) (ha : a.ev x t = .nsl) : aop x t h (.j (.cap a)) = some (.val (.int .i64 0) h) := by
  show aopJ x t h (.cap a) = _
  simp only [aopJ, ha]
def apmV (h : Hp) (es bt : Nat) (ag : Bool) (z : List V) : V → V → Option Rz
  | .nsl, .int .i64 n => if 0 < n ∧ n * bt ≤ room then some (.val (.sl h.length 0 n.toNat n.toNat false es ag) (h ++ [some (.cells (List.replicate n.toNat z).flatten)])) else none
  | _, _ => none
theorem aop_apmV {x : X} {t : Nat → V} {h : Hp} (es bt : Nat) (ag : Bool) (z : List V) (a n : O) : aop x t h (.j (.apm es bt ag z a n)) = apmV h es bt ag z (a.ev x t) (n.ev x t) := by
  show aopJ x t h (.apm es bt ag z a n) = _
  simp only [aopJ, apmV]
  generalize a.ev x t = u
  generalize n.ev x t = w
  cases u <;> first | rfl | (cases w <;> first | rfl | (rename_i k _; cases k <;> rfl))
theorem slcN (l : Nat) : slcV 1 .nsl 0 (some 0) none = some .nsl := rfl

theorem grow_spec {n : Nat} (hn : n < 2 ^ 40) (h : Hp) : ACalls DX 31 [.nsl, .int .i64 n] h fun r h' => (n = 0 ∧ r = .ret .nsl ∧ h' = h) ∨ (0 < n ∧ r = .ret (.sl h.length 0 0 n false 1 false) ∧ h' = h ++ [some (.cells (List.replicate n (V.int .u8 0)) none)]) := by
  refine acall DX.ok ck31 rfl ?_
  have h1 : ¬ (n : Int) < 0 := by omega
  have w1 : IntKind.i64.wrap 0 = 0 := rfl
  have w2 : IntKind.i64.wrap (n : Int) = n := wrap64 (by omega) (by omega)
  by_cases h0 : n = 0
  · subst h0
    simp [F31, aop_capN, w1, lenV, unV]
  · have h2 : 0 < n := by omega
    have h3 : (0 : Int) < n := by omega
    have e1 : ∀ v, slcV 1 (.sl h.length 0 n n false 1 false) 0 (some 0) none = some v ↔ v = .sl h.length 0 0 n false 1 false := fun v => by
      simp only [slcV, Option.getD_some]; rw [if_pos ⟨trivial, Nat.le_refl 0, Nat.zero_le n⟩]; simp [eq_comm]
    have e2 : slcV 1 (.sl h.length 0 n n false 1 false) 0 (some 0) none = some (.sl h.length 0 0 n false 1 false) := (e1 _).2 rfl
    have e3 : apmV h 1 1 false [.int .u8 0] .nsl (.int .i64 n) = some (.val (.sl h.length 0 n n false 1 false) (h ++ [some (.cells (List.replicate n (V.int .u8 0)) none)])) := by
      simp only [apmV, Int.toNat_natCast]; rw [if_pos ⟨h3, by show (n : Int) * (1 : Int) ≤ (70368744177664 : Int); omega⟩]; simp
    simp [F31, aop_capN, w1, w2, lenV, h1, h0, h2, h3, slcN, V.isStr, aop_apmV, e2, e3]

/-- The row so far: none yet where it has nothing. -/
def RowV (h : Hp) (k tot : Nat) (v : V) (ys : List V) : Prop := Vs.Own h k 1 false v ys.length ys ∧ (v = .nsl ∨ v.blk ≠ none) ∧ (tot = 0 → v = .nsl)
theorem Row.app {h : Hp} {k tot : Nat} {v a : V} {m : Nat} {ys zs : List V} (hk : k ≤ h.length) (H : RowV h k tot v ys) (ha : src h 1 a = some (m, zs)) (hz : zs.length = m) (hm : m ≤ tot) (hr : ys.length + m ≤ 2 ^ 40) :
    ∃ v' h', appR h 1 1 false none v a = some (.val v' h') ∧ RowV h' k tot v' (ys ++ zs) ∧ Frm k h h' ∧ h.length ≤ h'.length := by
  obtain ⟨hO, hv, ht⟩ := H
  by_cases hc : v = .nsl ∧ m = 0
  · obtain ⟨rfl, rfl⟩ := hc
    have hz0 : zs = [] := List.eq_nil_of_length_eq_zero hz
    subst hz0
    refine ⟨.nsl, h, ?_, ⟨by rw [List.append_nil]; exact hO, .inl rfl, fun _ => rfl⟩, Frm.refl hk, Nat.le_refl _⟩
    unfold appR
    rw [ha]
    simp [appV]
  · obtain ⟨v', h', a1, a2, a3, a4, a5, a6⟩ := Own.app (bt := 1) (ty := none) hk hO ha (by omega) (by unfold room; omega)
    refine ⟨v', h', a1, ⟨by rw [List.length_append, hz]; exact a2, ?_, fun h0 => ?_⟩, a3, a6⟩
    · right
      rcases a5 with a5 | a5
      · rcases hv with rfl | hv
        · intro hb
          rcases a2.2 with ⟨h1, h2⟩ | ⟨h1, h2⟩ | ⟨b, cap, ex, rest, ty, h1, _⟩
          · exact hc ⟨rfl, by omega⟩
          · exact hc ⟨rfl, by omega⟩
          · rw [h1] at hb; cases hb
        · rw [a5]; exact hv
      · rw [a5]; exact fun e => by cases e
    · exact absurd ⟨ht h0, by omega⟩ hc
theorem Sl.frm {h h' : Hp} {es : Nat} {s : V} {n : Nat} {ys : List V} (H : Sl h es s n ys) (hF : Frm h.length h h') : Sl h' es s n ys := by
  obtain ⟨h1, h2, h3⟩ := H
  refine ⟨?_, h2, h3⟩
  cases s with
  | sl b off len cap ex es' ag =>
    simp only [src] at h1 ⊢
    have e : rd h' (.ptr b off) (len * es) = rd h (.ptr b off) (len * es) ∨ rd h (.ptr b off) (len * es) = none := by
      simp only [rd]
      cases hb : hget h b with
      | none => right; rfl
      | some x => left; rw [hF.get (hget_lt hb), hb]
    rcases e with e | e
    · rw [e]; exact h1
    · rw [e] at h1; simp at h1
  | _ => exact h1
def isB (ys : List V) : Prop := ∀ y ∈ ys, ∃ n, y = .int .u8 n
def iC1 (a b : V) (la lb : Nat) (h : Hp) (k : Nat) (st : St) : Prop := ∃ i, k + i = 2 ∧ st.d = [] ∧ st.h = h ∧ st.t 0 = .lst true [a, b] ∧ st.t 9 = .lst true [a, b] ∧ st.t 10 = .int .i64 2 ∧ st.t 11 = .int .i64 i ∧ st.t 3 = .int .i64 ((if i = 0 then 0 else if i = 1 then la else la + lb : Nat) : Int)
def iC2 (a b : V) (xs ys : List V) (h : Hp) (k : Nat) (st : St) : Prop := ∃ i v, k + i = 2 ∧ st.d = [] ∧ st.t 25 = .lst true [a, b] ∧ st.t 26 = .int .i64 2 ∧ st.t 27 = .int .i64 i ∧ st.t 6 = v ∧ Frm h.length h st.h ∧ RowV st.h h.length (xs.length + ys.length) v (if i = 0 then [] else if i = 1 then xs else xs ++ ys)
theorem rd_fp1 (h : Hp) (v : V) : rd h (.fp [v] 0) 1 = some [v] := rfl
theorem iad2_0 (a b : V) (ha : a.cells = [a]) : iadV 1 (.lst true [a, b]) (.int .i64 ((0 : Nat) : Int)) = some (.fp [a] 0) := by simp [iadV, ha]
theorem iad2_1 (a b : V) (hb : b.cells = [b]) : iadV 1 (.lst true [a, b]) (.int .i64 ((1 : Nat) : Int)) = some (.fp [b] 0) := by simp [iadV, hb]
theorem Sl.cell {h : Hp} {es : Nat} {s : V} {n : Nat} {ys : List V} (H : Sl h es s n ys) : s.cells = [s] := by
  rcases H.shape with ⟨rfl, _⟩ | ⟨b, off, cap, ex, ag, cs, ty, rfl, _⟩ | ⟨ex, xs, rfl, _⟩ <;> rfl
theorem concat_run {h : Hp} {a b : V} {la lb : Nat} {xs ys : List V} (ha : Sl h 1 a la xs) (hb : Sl h 1 b lb ys) (hl : la + lb < 2 ^ 30) : ACalls DX 24 [.lst true [a, b]] h fun r h' => ∃ v, r = .ret v ∧ RowV h' h.length (xs.length + ys.length) v (xs ++ ys) ∧ Frm h.length h h' := by
  refine acall DX.ok ck24 rfl ?_
  have ca := Sl.cell ha
  have cb := Sl.cell hb
  have ha1 := ha.len
  have hb1 := hb.len
  have hxl : xs.length = la := by have := ha.ylen; omega
  have hyl : ys.length = lb := by have := hb.ylen; omega
  simp [F24, lenV]
  refine vc_loop _ _ _ (iC1 a b la lb h) 2 ⟨0, by simp, by simp, by simp, by simp, by simp, by simp, by simp, by simp⟩ ?_
  rintro k ⟨t, h', d⟩ ⟨i, hk, hd, hh, t0, t9, t10, t11, t3⟩
  simp only at hd hh t0 t9 t10 t11 t3
  subst hd hh
  by_cases hi : i < 2
  · have hi' : (i : Int) < 2 := by omega
    have hi'' : ¬ (2 : Int) ≤ i := by omega
    have w1 : IntKind.i64.wrap ((i : Int) + 1) = (i : Int) + 1 := by rw [wrap64 (by omega) (by omega)]
    rcases (show i = 0 ∨ i = 1 by omega) with rfl | rfl
    · have w2' : IntKind.i64.wrap (la : Int) = (la : Int) := by rw [wrap64 (by omega) (by omega)]
      have h0 := iad2_0 a b ca
      have w1' : IntKind.i64.wrap 1 = 1 := rfl
      have n1 : ¬ (la : Int) < 0 := by omega
      simp at h0
      simp [t10, t11, t9, h0, rd_fp1, asV, t3, ha1, w2', w1, w1', n1]
      exact ⟨k - 1, by omega, 1, by omega, rfl, rfl, by simp [t0], by simp [t9], by simp [t10], by simp, by simp⟩
    · have w2' : IntKind.i64.wrap ((la : Int) + lb) = (la : Int) + lb := by rw [wrap64 (by omega) (by omega)]
      have h0 := iad2_1 a b cb
      have w1' : IntKind.i64.wrap 2 = 2 := rfl
      have w1'' : IntKind.i64.wrap (1 + 1) = 2 := rfl
      have n1 : ¬ (la : Int) + lb < 0 := by omega
      simp at h0
      simp [t10, t11, t9, h0, rd_fp1, asV, t3, hb1, w2', w1, w1', w1'', n1]
      exact ⟨k - 1, by omega, 2, by omega, rfl, rfl, by simp [t0], by simp [t9], by simp [t10], by simp, by simp⟩
  · have hi2 : i = 2 := by omega
    subst hi2
    simp [t10, t11, t3]
    refine (show ACalls DX 31 [.nsl, .int .i64 ((la + lb : Nat) : Int)] h' _ from grow_spec (n := la + lb) (by omega) h').mono ?_
    intro r h2 hr
    have hG : ∃ v, r = .ret v ∧ RowV h2 h'.length (xs.length + ys.length) v [] ∧ Frm h'.length h' h2 := by
      rcases hr with ⟨_, rfl, rfl⟩ | ⟨_, rfl, rfl⟩
      · exact ⟨_, rfl, ⟨⟨rfl, .inl ⟨rfl, rfl⟩⟩, .inl rfl, fun _ => rfl⟩, Frm.refl (Nat.le_refl _)⟩
      · refine ⟨_, rfl, ⟨⟨rfl, .inr (.inr ⟨_, _, _, List.replicate (la + lb) (V.int .u8 0), none, rfl, Nat.le_refl _, ?_, Nat.zero_le _, by simp⟩)⟩, .inr (fun e => by cases e), fun e => by omega⟩, Frm.append (Nat.le_refl _) _⟩
        rw [hget_new]; simp
    obtain ⟨v, rfl, hR, hF⟩ := hG
    clear hr
    simp [t0, lenV]
    refine vc_loop _ _ _ (iC2 a b xs ys h') 2 ⟨0, v, by simp, by simp, by simp, by simp, by simp, by simp, hF, hR⟩ ?_
    clear t0 t9 t10 t11 t3
    rintro k2 ⟨t, h3, d⟩ ⟨i, v2, hk2, hd, t25, t26, t27, t6, hF3, hR3⟩
    simp only at hd t25 t26 t27 t6 hF3 hR3
    subst hd
    by_cases hi : i < 2
    · have hi' : (i : Int) < 2 := by omega
      have hi'' : ¬ (2 : Int) ≤ i := by omega
      have hkl : h'.length ≤ h3.length := hF3.1
      rcases (show i = 0 ∨ i = 1 by omega) with rfl | rfl
      · simp at hR3
        obtain ⟨v4, h4, a1, a2, a3, a4⟩ := Row.app hkl hR3 (Sl.frm ha hF3).1 hxl (by omega) (by simp; omega)
        have h0 := iad2_0 a b ca
        have w1' : IntKind.i64.wrap 1 = 1 := rfl
        simp at h0 a2
        simp [t26, t27, t25, h0, rd_fp1, asV, t6, a1, w1']
        exact ⟨k2 - 1, by omega, 1, v4, by omega, rfl, by simp [t25], by simp [t26], by simp, by simp, hF3.trans a3, by simpa using a2⟩
      · simp at hR3
        obtain ⟨v4, h4, a1, a2, a3, a4⟩ := Row.app hkl hR3 (Sl.frm hb hF3).1 hyl (by omega) (by omega)
        have h0 := iad2_1 a b cb
        have w1' : IntKind.i64.wrap (1 + 1) = 2 := rfl
        simp at h0
        simp [t26, t27, t25, h0, rd_fp1, asV, t6, a1, w1']
        exact ⟨k2 - 1, by omega, 2, v4, by omega, rfl, by simp [t25], by simp [t26], by simp; rfl, by simp, hF3.trans a3, by simpa using a2⟩
    · have hi2 : i = 2 := by omega
      subst hi2
      simp at hR3
      simp [t26, t27, t6]
      exact ⟨hR3, hF3⟩
theorem sub_all (zs rest : List V) : sub (zs ++ rest) 0 (zs.length * 1) = some zs := by simp [sub]
theorem concat_spec {h : Hp} {a b : V} {la lb : Nat} {xs ys : List V} (hlow : LowH h.length h) (ha : Sl h 1 a la xs) (hb : Sl h 1 b lb ys) (hl : la + lb < 2 ^ 30) (hB : isB (xs ++ ys)) : ACalls DX 24 [.lst true [a, b]] h fun r h' => r = .ret (ccV (xs ++ ys)) ∧ h' = h := by
  refine (concat_run ha hb hl).ice ?_
  rintro r h' ⟨v, rfl, ⟨hO, hv, h0⟩, hF⟩
  refine ⟨hF.1, hlow.frm hF, .ret (ccV (xs ++ ys)), ?_, rfl, by rw [hF.2]; simp⟩
  have h1 : ∀ y ∈ xs ++ ys, y.one = true := fun y hy => by obtain ⟨n, rfl⟩ := hB y hy; rfl
  have h2 : ∀ y ∈ xs ++ ys, Low 0 y := fun y hy => by obtain ⟨n, rfl⟩ := hB y hy; exact .int _ _
  by_cases he : xs ++ ys = []
  · have : v = .nsl := h0 (by have := congrArg List.length he; simpa using this)
    subst this
    simp only [ccV, he, if_pos]
    exact .low _ .nsl
  · simp only [ccV]
    rw [if_neg he]
    obtain ⟨hl', ⟨rfl, hn⟩ | ⟨rfl, hn⟩ | ⟨b, cap, ex, rest, ty, rfl, hb, hg, hc, hce⟩⟩ := hO
    · exact absurd (List.eq_nil_of_length_eq_zero hn) he
    · exact absurd (List.eq_nil_of_length_eq_zero hn) he
    · have := Ice.sl (h := h') (k := h.length) b 0 (xs ++ ys).length cap ex 1 false _ ty (xs ++ ys) (xs ++ ys) hb hg (sub_all _ _) (fun _ => rfl) rfl (fun j x y hx hy => by rw [hx] at hy; cases hy; exact .low _ ((h2 _ (List.mem_of_getElem? hx)).mono (Nat.zero_le _))) h1
      rwa [chunk_one _ _ rfl] at this
end Go.Proofs.YtfinnljkcgglfaaDoor
