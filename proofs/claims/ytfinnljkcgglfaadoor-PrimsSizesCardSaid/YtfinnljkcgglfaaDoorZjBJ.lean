/- The ladder: swap, step, X: one answer each. -/
import Derived.Test.YtfinnljkcgglfaaDoorZjTJ
import Derived.Test.YtfinnljkcgglfaaDoorZv6
set_option linter.unusedSimpArgs false
set_option linter.unusedVariables false
namespace Go.Proofs.YtfinnljkcgglfaaDoor
open Go Go.Vs
set_option maxRecDepth 100000

/-! ladder.a24 is told, too. -/
def RX.G (z : List V) : Nat → List V
  | 0 => DX.start
  | 2 => DX.consts
  | 4 => N32 z
  | _ => []
noncomputable def RX (z : List V) : X := ⟨Tryd.prog, (RX.G z), DX.M⟩
theorem RX.up (z : List V) : XUp DX (RX z) := ⟨rfl, rfl, fun g => match g with
  | 0 => .inl rfl
  | 1 => .inl rfl
  | 2 => .inl rfl
  | 3 => .inl rfl
  | 4 => .inr rfl
  | n + 5 => .inl rfl⟩
theorem RX.ok (z : List V) : XOk (RX z) := DX.ok
theorem RX.low (z : List V) : XLow (RX z) := fun g c hc => by
  match g with
  | 0 => exact DX.low 0 c hc
  | 1 => cases hc
  | 2 => exact DX.low 2 c hc
  | 3 => cases hc
  | 4 => exact isK_low (N32_is z) c hc
  | n + 5 => cases hc
def RX.T (p : FuncId → List V → Option V) (q : FuncId → List V → K.HT → Option (Res × K.HT)) : K.Tb := ⟨DX.tf.get, DX.ts.get, p, q⟩
theorem RX.tok (z : List V) (p : FuncId → List V → Option V) (q : FuncId → List V → K.HT → Option (Res × K.HT)) (hp : ∀ g args v, p g args = some v → PCalls (RX z) g args fun r => r = .ret v)
    (hq : ∀ g args h r h', q g args h = some (r, h') → ACalls (RX z) g args h.l fun a b => a = r ∧ b = h'.l) : K.TbOk (RX z) (RX.T p q) :=
  ⟨fun g F h => (TrF.get_ok _ DX.tf_ok g F h).1, fun g F h => (TrF.get_ok _ DX.ts_ok g F h).1, hp, hq, fun g F h => (TrF.get_ok _ DX.tf_ok g F h).2, fun g F h => (TrF.get_ok _ DX.ts_ok g F h).2⟩

noncomputable section
/-! What the pieces answer, as functions. -/
def timesF (a b : List V) : List V := carF (CK .u64 5 (finO (intAt a) (intAt b)))
theorem times_spec (a b : List V) : isK .u64 5 (timesF a b) = true ∧ PCalls DX 102 [.agg (E5 a), .agg (E5 b)] fun r => r = .ret (.agg (timesF a b)) := by
  refine ⟨(car_spec _).1, PCalls.of (times_run (intAt a) (intAt b)) fun r hr => ?_⟩
  subst hr
  exact .agg _ (isK_low (car_spec _).1)
def tim1 : List V → Option V
  | [.agg a, .agg b] => match isK .u64 5 a with
    | true => match isK .u64 5 b with
      | true => some (.agg (E5 (timesF a b)))
      | false => none
    | false => none
  | _ => none
theorem tim1_ok {args : List V} {v : V} (h : tim1 args = some v) : PCalls DX 102 args fun r => r = .ret v := by
  unfold tim1 at h
  split at h
  · rename_i a b
    split at h
    · rename_i h1
      split at h
      · rename_i h2; cases h
        have := times_spec a b
        rw [E5_id h1, E5_id h2] at this
        rw [E5_id this.1]; exact this.2
      · cases h
    · cases h
  · cases h
def timK (f : FuncId) (args : List V) : Option V := match Nat.beq f 102 with
  | true => tim1 args
  | false => none
theorem timK_ok : ∀ g args v, timK g args = some v → PCalls DX g args fun r => r = .ret v := by
  intro g args v h
  unfold timK at h
  split at h
  · rename_i hb; have := Nat.eq_of_beq_eq_true hb; subst this; exact tim1_ok h
  · cases h
def C1 : K.Tb := DX.T timK fun _ _ _ => none
theorem C1.ok : K.TbOk DX C1 := DX.tok timK _ timK_ok fun g args h r h' he => by cases he
theorem mul_ex (a b : List V) : ∃ r, okA .u8 32 r = true ∧ PCalls DX 93 [.agg (N32 a), .agg (N32 b)] fun c => c = r := ex_of DX.ok DX.low C1.ok (n := 3000) (by kernel_rfl)
def redF (a : List V) : List V := aggOf (Classical.choose (red_ex a))
def addF (a b : List V) : List V := aggOf (Classical.choose (add_ex a b))
def subF (a b : List V) : List V := aggOf (Classical.choose (sub_ex a b))
def mulF (a b : List V) : List V := aggOf (Classical.choose (mul_ex a b))
def clampF (a : List V) : List V := aggOf (Classical.choose (clamp_ex a))
def okA2a : Res → List V
  | .ret (.tup [.agg a, .agg b]) => a
  | _ => []
def okA2b : Res → List V
  | .ret (.tup [.agg a, .agg b]) => b
  | _ => []
theorem okA2_spec {r : Res} (h : okA2 r = true) : isK .u8 32 (okA2a r) = true ∧ isK .u8 32 (okA2b r) = true ∧ r = .ret (.tup [.agg (okA2a r), .agg (okA2b r)]) := by
  unfold okA2 at h
  split at h
  · rename_i a b
    split at h
    · rename_i h1; exact ⟨h1, h, rfl⟩
    · cases h
  · cases h
theorem swap_ex (s : Bool) (a b : List V) : ∃ r, okA2 r = true ∧ PCalls DX 98 [.bool s, .agg (N32 a), .agg (N32 b)] fun c => c = r := by
  cases s
  · exact swapF_ex a b
  · exact swapT_ex a b
def swA (s : Bool) (a b : List V) : List V := okA2a (Classical.choose (swap_ex s a b))
def swB (s : Bool) (a b : List V) : List V := okA2b (Classical.choose (swap_ex s a b))
theorem swap_spec (s : Bool) (a b : List V) : isK .u8 32 (swA s a b) = true ∧ isK .u8 32 (swB s a b) = true ∧ PCalls DX 98 [.bool s, .agg (N32 a), .agg (N32 b)] fun c => c = .ret (.tup [.agg (swA s a b), .agg (swB s a b)]) := by
  have h := Classical.choose_spec (swap_ex s a b)
  obtain ⟨h1, h2, h3⟩ := okA2_spec h.1
  refine ⟨h1, h2, ?_⟩
  unfold swA swB
  rw [← h3]
  exact h.2

/-! Known calls. -/
def un1 (g : List V → List V) : List V → Option V
  | [.agg a] => match isK .u8 32 a with
    | true => some (.agg (N32 (g a)))
    | false => none
  | _ => none
def bi1 (g : List V → List V → List V) : List V → Option V
  | [.agg a, .agg b] => match isK .u8 32 a with
    | true => match isK .u8 32 b with
      | true => some (.agg (N32 (g a b)))
      | false => none
    | false => none
  | _ => none
def sw1 : List V → Option V
  | [.bool s, .agg a, .agg b] => match isK .u8 32 a with
    | true => match isK .u8 32 b with
      | true => some (.tup [.agg (N32 (swA s a b)), .agg (N32 (swB s a b))])
      | false => none
    | false => none
  | _ => none
def limbK (f : FuncId) (args : List V) : Option V := match Nat.beq f 93 with
  | true => bi1 mulF args
  | false => match Nat.beq f 100 with
    | true => bi1 addF args
    | false => match Nat.beq f 101 with
      | true => bi1 subF args
      | false => match Nat.beq f 102 with
        | true => tim1 args
        | false => match Nat.beq f 90 with
          | true => un1 redF args
          | false => match Nat.beq f 89 with
            | true => un1 clampF args
            | false => match Nat.beq f 98 with
              | true => sw1 args
              | false => none
theorem un1_ok {f : FuncId} {g : List V → List V} (H : ∀ a, isK .u8 32 (g a) = true ∧ PCalls DX f [.agg (N32 a)] fun r => r = .ret (.agg (g a))) {args : List V} {v : V} (h : un1 g args = some v) : PCalls DX f args fun r => r = .ret v := by
  unfold un1 at h
  split at h
  · rename_i a
    split at h
    · rename_i h1; cases h
      have := H a
      rw [N32_id h1] at this
      rw [N32_id this.1]; exact this.2
    · cases h
  · cases h
theorem bi1_ok {f : FuncId} {g : List V → List V → List V} (H : ∀ a b, isK .u8 32 (g a b) = true ∧ PCalls DX f [.agg (N32 a), .agg (N32 b)] fun r => r = .ret (.agg (g a b))) {args : List V} {v : V} (h : bi1 g args = some v) : PCalls DX f args fun r => r = .ret v := by
  unfold bi1 at h
  split at h
  · rename_i a b
    split at h
    · rename_i h1
      split at h
      · rename_i h2; cases h
        have := H a b
        rw [N32_id h1, N32_id h2] at this
        rw [N32_id this.1]; exact this.2
      · cases h
    · cases h
  · cases h
theorem sw1_ok {args : List V} {v : V} (h : sw1 args = some v) : PCalls DX 98 args fun r => r = .ret v := by
  unfold sw1 at h
  split at h
  · rename_i s a b
    split at h
    · rename_i h1
      split at h
      · rename_i h2; cases h
        have := swap_spec s a b
        rw [N32_id h1, N32_id h2] at this
        rw [N32_id this.1, N32_id this.2.1]; exact this.2.2
      · cases h
    · cases h
  · cases h
theorem limbK_ok : ∀ g args v, limbK g args = some v → PCalls DX g args fun r => r = .ret v := by
  intro g args v h
  unfold limbK at h
  repeat' split at h
  · rename_i hb; have := Nat.eq_of_beq_eq_true hb; subst this; exact bi1_ok (fun a b => pc_of (mul_ex a b)) h
  · rename_i hb; have := Nat.eq_of_beq_eq_true hb; subst this; exact bi1_ok (fun a b => pc_of (add_ex a b)) h
  · rename_i hb; have := Nat.eq_of_beq_eq_true hb; subst this; exact bi1_ok (fun a b => pc_of (sub_ex a b)) h
  · rename_i hb; have := Nat.eq_of_beq_eq_true hb; subst this; exact tim1_ok h
  · rename_i hb; have := Nat.eq_of_beq_eq_true hb; subst this; exact un1_ok (fun a => pc_of (red_ex a)) h
  · rename_i hb; have := Nat.eq_of_beq_eq_true hb; subst this; exact un1_ok (fun a => pc_of (clamp_ex a)) h
  · rename_i hb; have := Nat.eq_of_beq_eq_true hb; subst this; exact sw1_ok h
  · cases h
def CL (z : List V) : K.Tb := RX.T limbK fun _ _ _ => none
theorem CL.ok (z : List V) : K.TbOk (RX z) (CL z) := (RX.tok z) limbK _ (fun g args v h => (limbK_ok g args v h).up (RX.up z)) fun g args h r h' he => by cases he
theorem inv_ex (z : List V) (a : List V) : ∃ r, okA .u8 32 r = true ∧ PCalls (RX z) 94 [.agg (N32 a)] fun b => b = r := ex_of (RX.ok z) (RX.low z) (CL.ok z) (n := 3000) (by kernel_rfl)
end
end Go.Proofs.YtfinnljkcgglfaaDoor
namespace Go.Proofs.YtfinnljkcgglfaaDoor
open Go Go.Vs
set_option maxRecDepth 100000
noncomputable section
def N128 (l : List V) : List V := [.int .u8 (intAt l 0), .int .u8 (intAt l 1), .int .u8 (intAt l 2), .int .u8 (intAt l 3), .int .u8 (intAt l 4), .int .u8 (intAt l 5), .int .u8 (intAt l 6), .int .u8 (intAt l 7), .int .u8 (intAt l 8), .int .u8 (intAt l 9), .int .u8 (intAt l 10), .int .u8 (intAt l 11), .int .u8 (intAt l 12), .int .u8 (intAt l 13), .int .u8 (intAt l 14), .int .u8 (intAt l 15), .int .u8 (intAt l 16), .int .u8 (intAt l 17), .int .u8 (intAt l 18), .int .u8 (intAt l 19), .int .u8 (intAt l 20), .int .u8 (intAt l 21), .int .u8 (intAt l 22), .int .u8 (intAt l 23), .int .u8 (intAt l 24), .int .u8 (intAt l 25), .int .u8 (intAt l 26), .int .u8 (intAt l 27), .int .u8 (intAt l 28), .int .u8 (intAt l 29), .int .u8 (intAt l 30), .int .u8 (intAt l 31), .int .u8 (intAt l 32), .int .u8 (intAt l 33), .int .u8 (intAt l 34), .int .u8 (intAt l 35), .int .u8 (intAt l 36), .int .u8 (intAt l 37), .int .u8 (intAt l 38), .int .u8 (intAt l 39), .int .u8 (intAt l 40), .int .u8 (intAt l 41), .int .u8 (intAt l 42), .int .u8 (intAt l 43), .int .u8 (intAt l 44), .int .u8 (intAt l 45), .int .u8 (intAt l 46), .int .u8 (intAt l 47), .int .u8 (intAt l 48), .int .u8 (intAt l 49), .int .u8 (intAt l 50), .int .u8 (intAt l 51), .int .u8 (intAt l 52), .int .u8 (intAt l 53), .int .u8 (intAt l 54), .int .u8 (intAt l 55), .int .u8 (intAt l 56), .int .u8 (intAt l 57), .int .u8 (intAt l 58), .int .u8 (intAt l 59), .int .u8 (intAt l 60), .int .u8 (intAt l 61), .int .u8 (intAt l 62), .int .u8 (intAt l 63), .int .u8 (intAt l 64), .int .u8 (intAt l 65), .int .u8 (intAt l 66), .int .u8 (intAt l 67), .int .u8 (intAt l 68), .int .u8 (intAt l 69), .int .u8 (intAt l 70), .int .u8 (intAt l 71), .int .u8 (intAt l 72), .int .u8 (intAt l 73), .int .u8 (intAt l 74), .int .u8 (intAt l 75), .int .u8 (intAt l 76), .int .u8 (intAt l 77), .int .u8 (intAt l 78), .int .u8 (intAt l 79), .int .u8 (intAt l 80), .int .u8 (intAt l 81), .int .u8 (intAt l 82), .int .u8 (intAt l 83), .int .u8 (intAt l 84), .int .u8 (intAt l 85), .int .u8 (intAt l 86), .int .u8 (intAt l 87), .int .u8 (intAt l 88), .int .u8 (intAt l 89), .int .u8 (intAt l 90), .int .u8 (intAt l 91), .int .u8 (intAt l 92), .int .u8 (intAt l 93), .int .u8 (intAt l 94), .int .u8 (intAt l 95), .int .u8 (intAt l 96), .int .u8 (intAt l 97), .int .u8 (intAt l 98), .int .u8 (intAt l 99), .int .u8 (intAt l 100), .int .u8 (intAt l 101), .int .u8 (intAt l 102), .int .u8 (intAt l 103), .int .u8 (intAt l 104), .int .u8 (intAt l 105), .int .u8 (intAt l 106), .int .u8 (intAt l 107), .int .u8 (intAt l 108), .int .u8 (intAt l 109), .int .u8 (intAt l 110), .int .u8 (intAt l 111), .int .u8 (intAt l 112), .int .u8 (intAt l 113), .int .u8 (intAt l 114), .int .u8 (intAt l 115), .int .u8 (intAt l 116), .int .u8 (intAt l 117), .int .u8 (intAt l 118), .int .u8 (intAt l 119), .int .u8 (intAt l 120), .int .u8 (intAt l 121), .int .u8 (intAt l 122), .int .u8 (intAt l 123), .int .u8 (intAt l 124), .int .u8 (intAt l 125), .int .u8 (intAt l 126), .int .u8 (intAt l 127)]
theorem N128_eq (l : List V) : N128 l = cellsK .u8 128 l := rfl
theorem N128_id {l : List V} (h : isK .u8 128 l = true) : N128 l = l := cellsK_eq h
def H5 (k u r x p : List V) : Hp := [some (.cells (N32 k) none), some (.cells (N32 u) none), some (.cells (N32 r) none), some (.cells (N32 x) none), some (.cells (N128 p) none)]
def okB (n : Nat) : Option Blk → Bool
  | some (.cells c none) => isK .u8 n c
  | _ => false
def cellsOf : Option Blk → List V
  | some (.cells c _) => c
  | _ => []
theorem okB_spec {n : Nat} {b : Option Blk} (h : okB n b = true) : isK .u8 n (cellsOf b) = true ∧ b = some (.cells (cellsOf b) none) := by
  unfold okB at h
  split at h
  · exact ⟨h, rfl⟩
  · cases h
theorem low5 {l : Hp} {k u r x p : List V} (h0 : l[0]? = some (some (.cells (N32 k) none))) (h1 : l[1]? = some (some (.cells (N32 u) none))) (h2 : l[2]? = some (some (.cells (N32 r) none))) (h3 : l[3]? = some (some (.cells (N32 x) none))) (h4 : l[4]? = some (some (.cells p none))) (hp : isK .u8 128 p = true) : LowH 5 l := by
  have key : ∀ {n : Nat} {c : List V} {b : Blk} {i : Nat}, l[i]? = some (some (.cells c none)) → isK .u8 n c = true → hget l i = some b → match b with
    | .cells cs _ => ∀ c ∈ cs, Low 5 c
    | .map es => ∀ e ∈ es, Low 5 e.1 ∧ Low 5 e.2 := by
    intro n c b i hi hk hb
    unfold hget at hb
    rw [hi] at hb
    simp at hb
    subst hb
    exact fun v hv => Low.mono (Nat.zero_le _) (isK_low hk v hv)
  intro β hβ b hb
  match β, hβ with
  | 0, _ => exact key h0 (N32_is k) hb
  | 1, _ => exact key h1 (N32_is u) hb
  | 2, _ => exact key h2 (N32_is r) hb
  | 3, _ => exact key h3 (N32_is x) hb
  | 4, _ => exact key h4 hp hb
def G6 (H : K.HT) : Option Blk × Option Blk × Option Blk × Option Blk × Bool × Bool := (H.g 0, H.g 1, H.g 2, H.g 3, okB 128 (H.g 4), Nat.ble 5 H.n)
/-- A call on the point. -/
theorem point_ex (z : List V) {T : K.Tb} (hT : K.TbOk (RX z) T) {n : Nat} {f : FuncId} {args : List V} {k u r x p : List V}
    (h : K.runH (RX z) T n f args (H5 k u r x p) G6 = some (Res.ret (.tup []), (some (.cells (N32 k) none), some (.cells (N32 u) none), some (.cells (N32 r) none), some (.cells (N32 x) none), true, true))) :
    ∃ p', isK .u8 128 p' = true ∧ ACalls (RX z) f args (H5 k u r x p) fun a b => a = .ret (.tup []) ∧ b = H5 k u r x p' := by
  obtain ⟨H', hg, ha⟩ := K.open_step (RX.ok z) (RX.low z) hT h
  simp only [G6, Prod.mk.injEq] at hg
  obtain ⟨g0, g1, g2, g3, g4, g5⟩ := hg
  have hn : 5 ≤ H'.n := Nat.ble_eq.mp g5
  obtain ⟨hk, hb⟩ := okB_spec g4
  have e0 := K.HT.g_get g0 (by omega)
  have e1 := K.HT.g_get g1 (by omega)
  have e2 := K.HT.g_get g2 (by omega)
  have e3 := K.HT.g_get g3 (by omega)
  have e4 := K.HT.g_get hb (by omega)
  refine ⟨cellsOf (H'.g 4), hk, ha.ice ?_⟩
  rintro a b ⟨rfl, rfl⟩
  refine ⟨by rw [K.HT.len]; exact hn, low5 e0 e1 e2 e3 e4 hk, .ret (.tup []), .low _ (.tup _ (by simp)), rfl, ?_⟩
  refine List.ext_getElem? fun j => ?_
  rw [List.getElem?_take]
  show (if j < 5 then H'.l[j]? else none) = _
  match j with
  | 0 => simp only [e0]; rfl
  | 1 => simp only [e1]; rfl
  | 2 => simp only [e2]; rfl
  | 3 => simp only [e3]; rfl
  | 4 => simp only [e4, N128_id hk, H5]; rfl
  | j + 5 => rw [if_neg (by omega)]; rfl
theorem pswap_ex (z : List V) (s : Bool) (k u r x p : List V) : ∃ p', isK .u8 128 p' = true ∧ ACalls (RX z) 91 [.ptr 4 0, .bool s] (H5 k u r x p) fun a b => a = .ret (.tup []) ∧ b = H5 k u r x p' := (point_ex z) (CL.ok z) (n := 1000) (by kernel_rfl)
theorem pstep_ex (z : List V) (y k u r x p : List V) : ∃ p', isK .u8 128 p' = true ∧ ACalls (RX z) 92 [.ptr 4 0, .agg (N32 y)] (H5 k u r x p) fun a b => a = .ret (.tup []) ∧ b = H5 k u r x p' := (point_ex z) (CL.ok z) (n := 1000) (by kernel_rfl)
def pswF (z : List V) (s : Bool) (k u r x p : List V) : List V := Classical.choose ((pswap_ex z) s k u r x p)
def pstF (z : List V) (y k u r x p : List V) : List V := Classical.choose ((pstep_ex z) y k u r x p)
theorem pswF_spec (z : List V) (s : Bool) (k u r x p : List V) : isK .u8 128 ((pswF z) s k u r x p) = true ∧ ACalls (RX z) 91 [.ptr 4 0, .bool s] (H5 k u r x p) fun a b => a = .ret (.tup []) ∧ b = H5 k u r x ((pswF z) s k u r x p) := Classical.choose_spec ((pswap_ex z) s k u r x p)
theorem pstF_spec (z : List V) (y k u r x p : List V) : isK .u8 128 ((pstF z) y k u r x p) = true ∧ ACalls (RX z) 92 [.ptr 4 0, .agg (N32 y)] (H5 k u r x p) fun a b => a = .ret (.tup []) ∧ b = H5 k u r x ((pstF z) y k u r x p) := Classical.choose_spec ((pstep_ex z) y k u r x p)

/-- Calls on the point, known. -/
def ladN (k u r x p : List V) (H : K.HT) : Option (Res × K.HT) := match K.HT.nil.cat (H5 k u r x p) with
  | some H' => some (.ret (.tup []), H')
  | none => none
def all5 (H : K.HT) : Bool := match Nat.beq H.n 5 with
  | true => match okB 32 (H.g 0) with
    | true => match okB 32 (H.g 1) with
      | true => match okB 32 (H.g 2) with
        | true => match okB 32 (H.g 3) with
          | true => okB 128 (H.g 4)
          | false => false
        | false => false
      | false => false
    | false => false
  | false => false
def c5 (g : List V → List V → List V → List V → List V → List V) (H : K.HT) : Option (Res × K.HT) := match all5 H with
  | true => ladN (cellsOf (H.g 0)) (cellsOf (H.g 1)) (cellsOf (H.g 2)) (cellsOf (H.g 3)) (g (cellsOf (H.g 0)) (cellsOf (H.g 1)) (cellsOf (H.g 2)) (cellsOf (H.g 3)) (cellsOf (H.g 4))) H
  | false => none
def ladQ (z : List V) (f : FuncId) (args : List V) (H : K.HT) : Option (Res × K.HT) := match Nat.beq f 91 with
  | true => match args with
    | [.ptr 4 0, .bool s] => c5 ((pswF z) s) H
    | _ => none
  | false => match Nat.beq f 92 with
    | true => match args with
      | [.ptr 4 0, .agg y] => match isK .u8 32 y with
        | true => c5 ((pstF z) y) H
        | false => none
      | _ => none
    | false => none
theorem all5_l {H : K.HT} (h : all5 H = true) : H.l = H5 (cellsOf (H.g 0)) (cellsOf (H.g 1)) (cellsOf (H.g 2)) (cellsOf (H.g 3)) (cellsOf (H.g 4)) := by
  unfold all5 at h
  repeat' split at h
  all_goals first | (cases h; done) | skip
  rename_i a hn b h0 c h1 d h2 e h3
  have hn := Nat.eq_of_beq_eq_true hn
  obtain ⟨k0, b0⟩ := okB_spec h0
  obtain ⟨k1, b1⟩ := okB_spec h1
  obtain ⟨k2, b2⟩ := okB_spec h2
  obtain ⟨k3, b3⟩ := okB_spec h3
  obtain ⟨k4, b4⟩ := okB_spec h
  have e0 := K.HT.g_get b0 (by omega)
  have e1 := K.HT.g_get b1 (by omega)
  have e2 := K.HT.g_get b2 (by omega)
  have e3 := K.HT.g_get b3 (by omega)
  have e4 := K.HT.g_get b4 (by omega)
  refine List.ext_getElem? fun j => ?_
  match j with
  | 0 => rw [e0]; simp only [H5, N32_id k0]; rfl
  | 1 => rw [e1]; simp only [H5, N32_id k1]; rfl
  | 2 => rw [e2]; simp only [H5, N32_id k2]; rfl
  | 3 => rw [e3]; simp only [H5, N32_id k3]; rfl
  | 4 => rw [e4]; simp only [H5, N128_id k4]; rfl
  | j + 5 => rw [List.getElem?_eq_none (by rw [K.HT.len]; omega)]; rfl
theorem c5_ok (z : List V) {f : FuncId} {args : List V} {g : List V → List V → List V → List V → List V → List V} (hg : ∀ k u r x p, ACalls (RX z) f args (H5 k u r x p) fun a b => a = .ret (.tup []) ∧ b = H5 k u r x (g k u r x p)) {H : K.HT} {r : Res} {h' : K.HT} (he : c5 g H = some (r, h')) : ACalls (RX z) f args H.l fun a b => a = r ∧ b = h'.l := by
  unfold c5 at he
  split at he
  · rename_i h5
    unfold ladN at he
    split at he
    · rename_i H' hc
      simp only [Option.some.injEq, Prod.mk.injEq] at he
      obtain ⟨rfl, rfl⟩ := he
      rw [K.HT.cat_l hc, K.HT.nil_l, List.nil_append, all5_l h5]
      exact hg ..
    · cases he
  · cases he
theorem ladQ_ok (z : List V) : ∀ g args h r h', (ladQ z) g args h = some (r, h') → ACalls (RX z) g args h.l fun a b => a = r ∧ b = h'.l := by
  intro g args H r h' he
  unfold ladQ at he
  split at he
  · rename_i hb
    have := Nat.eq_of_beq_eq_true hb
    subst this
    split at he
    · rename_i s
      exact (c5_ok z) (fun k u r x p => ((pswF_spec z) s k u r x p).2) he
    · cases he
  · split at he
    · rename_i hb
      have := Nat.eq_of_beq_eq_true hb
      subst this
      split at he
      · rename_i y
        split at he
        · rename_i hy
          refine (c5_ok z) (fun k u r x p => ?_) he
          have := ((pstF_spec z) y k u r x p).2
          rw [N32_id hy] at this
          exact this
        · cases he
      · cases he
    · cases he
def invF (z : List V) (a : List V) : List V := aggOf (Classical.choose ((inv_ex z) a))
def ladP (z : List V) (f : FuncId) (args : List V) : Option V := match Nat.beq f 94 with
  | true => un1 (invF z) args
  | false => limbK f args
theorem un1_okR (z : List V) {f : FuncId} {g : List V → List V} (H : ∀ a, isK .u8 32 (g a) = true ∧ PCalls (RX z) f [.agg (N32 a)] fun r => r = .ret (.agg (g a))) {args : List V} {v : V} (h : un1 g args = some v) : PCalls (RX z) f args fun r => r = .ret v := by
  unfold un1 at h
  split at h
  · rename_i a
    split at h
    · rename_i h1; cases h
      have := H a
      rw [N32_id h1] at this
      rw [N32_id this.1]; exact this.2
    · cases h
  · cases h
theorem ladP_ok (z : List V) : ∀ g args v, (ladP z) g args = some v → PCalls (RX z) g args fun r => r = .ret v := by
  intro g args v h
  unfold ladP at h
  split at h
  · rename_i hb; have := Nat.eq_of_beq_eq_true hb; subst this; exact (un1_okR z) (fun a => pc_of ((inv_ex z) a)) h
  · exact (limbK_ok g args v h).up (RX.up z)
def CLL (z : List V) : K.Tb := RX.T (ladP z) (ladQ z)
theorem CLL.ok (z : List V) : K.TbOk (RX z) (CLL z) := (RX.tok z) (ladP z) (ladQ z) (ladP_ok z) (ladQ_ok z)
end
end Go.Proofs.YtfinnljkcgglfaaDoor
