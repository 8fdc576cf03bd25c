/- Code is run over plain data, by a function of Lean that the kernel reckons fast: what it comes to is what the call comes to. -/
import Derived.Test.YtfinnljkcgglfaaDoorZv5
import Derived.Test.YtfinnljkcgglfaaDoorZv4
set_option linter.unusedSimpArgs false
set_option linter.unusedVariables false
namespace Go.Vs.K
open Go.Vs hiding L getT setT setT_spec L.st L.put L.put_st CF evOp PF evOpP evOp_sound evOpP_val Tb Sd Sp evAgain tellE tellE_st evOp_t evD evD_sound evAgain_val
open Go.RowKit
set_option linter.unusedSimpArgs false
set_option linter.unusedVariables false

noncomputable section
set_option maxRecDepth 10000

/-- Temporaries in a tree. -/
inductive TT where
  | leaf (k : Nat) (v : V)
  | node (m : Nat) (l r : TT)

/-- Blocks in a tree. -/
inductive BT where
  | leaf (k : Nat) (b : Option Blk)
  | node (m : Nat) (l r : BT)

def getB (t : BT) (n : Nat) : Option Blk := BT.rec (motive := fun _ => Option Blk) (fun k b => Bool.rec none b (Nat.beq n k)) (fun m _ _ gl gr => Bool.rec gl gr (Nat.ble m n)) t
def setB (t : BT) (n : Nat) (b : Option Blk) : Option BT := BT.rec (motive := fun _ => Option BT) (fun k _ => Bool.rec none (some (.leaf k b)) (Nat.beq n k))
  (fun m l r sl sr => Bool.rec (Option.rec none (fun l' => some (.node m l' r)) sl) (Option.rec none (fun r' => some (.node m l r')) sr) (Nat.ble m n)) t

theorem getB_leaf (k : Nat) (v : Option Blk) (n : Nat) : getB (.leaf k v) n = if n = k then v else none := by
  show Bool.rec (motive := fun _ => Option Blk) none v (Nat.beq n k) = _
  by_cases h : n = k
  · rw [if_pos h, show Nat.beq n k = true from Nat.beq_eq.mpr h]
  · rw [if_neg h, show Nat.beq n k = false from by rw [← Bool.not_eq_true, Nat.beq_eq]; exact h]
theorem getB_node (m : Nat) (l r : BT) (n : Nat) : getB (.node m l r) n = if m ≤ n then getB r n else getB l n := by
  show Bool.rec (motive := fun _ => Option Blk) (getB l n) (getB r n) (Nat.ble m n) = _
  by_cases h : m ≤ n
  · rw [if_pos h, show Nat.ble m n = true from Nat.ble_eq.mpr h]
  · rw [if_neg h, show Nat.ble m n = false from by rw [← Bool.not_eq_true, Nat.ble_eq]; exact h]
theorem setB_leaf (k : Nat) (u : Option Blk) (n : Nat) (v : Option Blk) : setB (.leaf k u) n v = if n = k then some (.leaf k v) else none := by
  show Bool.rec (motive := fun _ => Option BT) none (some (.leaf k v)) (Nat.beq n k) = _
  by_cases h : n = k
  · rw [if_pos h, show Nat.beq n k = true from Nat.beq_eq.mpr h]
  · rw [if_neg h, show Nat.beq n k = false from by rw [← Bool.not_eq_true, Nat.beq_eq]; exact h]
theorem setB_node (m : Nat) (l r : BT) (n : Nat) (v : Option Blk) : setB (.node m l r) n v = if m ≤ n then (setB r n v).map (fun r' => .node m l r') else (setB l n v).map (fun l' => .node m l' r) := by
  show Bool.rec (motive := fun _ => Option BT) (Option.rec (motive := fun _ => Option BT) none (fun l' => some (.node m l' r)) (setB l n v)) (Option.rec (motive := fun _ => Option BT) none (fun r' => some (.node m l r')) (setB r n v)) (Nat.ble m n) = _
  by_cases h : m ≤ n
  · rw [if_pos h, show Nat.ble m n = true from Nat.ble_eq.mpr h]; cases setB r n v <;> rfl
  · rw [if_neg h, show Nat.ble m n = false from by rw [← Bool.not_eq_true, Nat.ble_eq]; exact h]; cases setB l n v <;> rfl

theorem setB_spec : ∀ (l : BT) (d : Nat) (v : Option Blk) (l' : BT), setB l d v = some l' → ∀ n, getB l' n = if n = d then v else getB l n
  | .leaf k u, d, v, l', h, n => by
    rw [setB_leaf] at h
    split at h
    · rename_i hk
      cases h
      subst hk
      rw [getB_leaf, getB_leaf]
      split <;> rfl
    · cases h
  | .node m l r, d, v, l', h, n => by
    rw [setB_node] at h
    split at h
    · rename_i hm
      obtain ⟨r', hr, rfl⟩ := Option.map_eq_some_iff.1 h
      rw [getB_node, getB_node]
      by_cases hn : m ≤ n
      · rw [if_pos hn, if_pos hn]; exact setB_spec r d v r' hr n
      · rw [if_neg hn, if_neg hn, if_neg (by omega)]
    · rename_i hm
      obtain ⟨l2, hl, rfl⟩ := Option.map_eq_some_iff.1 h
      rw [getB_node, getB_node]
      by_cases hn : m ≤ n
      · rw [if_pos hn, if_pos hn, if_neg (by omega)]
      · rw [if_neg hn, if_neg hn]; exact setB_spec l d v l2 hl n

/-- A heap in a tree. -/
structure HT where
  n : Nat
  t : BT

def HT.g (H : HT) : Nat → Option Blk := fun b => Bool.rec none (getB H.t b) (Nat.ble (Nat.succ b) H.n)
def HT.l (H : HT) : Hp := (List.range H.n).map (getB H.t)
def HT.set (H : HT) (b : Nat) (x : Option Blk) : Option HT := match setB H.t b x with
  | some t => some ⟨H.n, t⟩
  | none => none
def HT.push (H : HT) (x : Option Blk) : Option HT := match setB H.t H.n x with
  | some t => some ⟨Nat.succ H.n, t⟩
  | none => none
def HT.cat (H : HT) : Hp → Option HT
  | [] => some H
  | x :: r => match H.push x with
    | some H' => H'.cat r
    | none => none
def HT.ap (H : HT) : Eff → Option HT
  | .nil => some H
  | .push b => H.push (some b)
  | .set b x => H.set b x
  | .both b y => match H.set b none with
    | some H' => H'.push (some y)
    | none => none

theorem HT.len (H : HT) : H.l.length = H.n := by simp [HT.l]
theorem HT.get? (H : HT) (b : Nat) : H.l[b]? = if b < H.n then some (getB H.t b) else none := by
  unfold HT.l
  rw [List.getElem?_map]
  by_cases h : b < H.n
  · rw [if_pos h, List.getElem?_range h]; rfl
  · rw [if_neg h, List.getElem?_eq_none (by simpa using h)]; rfl
theorem HT.g_eq (H : HT) : hget H.l = H.g := by
  funext b
  unfold hget
  rw [HT.get?]
  show _ = Bool.rec (motive := fun _ => Option Blk) none (getB H.t b) (Nat.ble (Nat.succ b) H.n)
  by_cases h : b < H.n
  · rw [if_pos h, show Nat.ble (Nat.succ b) H.n = true from Nat.ble_eq.mpr h]; rfl
  · rw [if_neg h, show Nat.ble (Nat.succ b) H.n = false from by rw [← Bool.not_eq_true, Nat.ble_eq]; exact h]; rfl
theorem HT.set_l {H H' : HT} {b : Nat} {x : Option Blk} (h : H.set b x = some H') : H'.l = H.l.set b x := by
  unfold HT.set at h
  split at h
  · rename_i t ht
    cases h
    apply List.ext_getElem?
    intro i
    rw [HT.get?, List.getElem?_set, HT.get?, HT.len, setB_spec _ _ _ _ ht i]
    by_cases hi : i < H.n
    · by_cases hb : b = i
      · subst hb; simp [hi]
      · simp [hi, hb, Ne.symm hb, show ¬ i = b from fun e => hb e.symm]
    · by_cases hb : b = i
      · subst hb; simp [hi]
      · simp [hi, hb]
  · cases h
theorem HT.push_l {H H' : HT} {x : Option Blk} (h : H.push x = some H') : H'.l = H.l ++ [x] ∧ H'.n = H.n + 1 := by
  unfold HT.push at h
  split at h
  · rename_i t ht
    cases h
    refine ⟨?_, rfl⟩
    apply List.ext_getElem?
    intro i
    rw [HT.get?, setB_spec _ _ _ _ ht i]
    rcases Nat.lt_trichotomy i H.n with hi | hi | hi
    · rw [List.getElem?_append_left (by rw [HT.len]; exact hi), HT.get?, if_pos (by show i < Nat.succ H.n; omega), if_neg (by omega), if_pos hi]
    · subst hi
      rw [List.getElem?_append_right (by rw [HT.len]; exact Nat.le_refl _), HT.len, if_pos (by show H.n < Nat.succ H.n; omega), if_pos rfl]; simp
    · rw [if_neg (by show ¬ i < Nat.succ H.n; omega), List.getElem?_eq_none (by rw [List.length_append, HT.len]; simp; omega)]
  · cases h
theorem HT.cat_l : ∀ {l : Hp} {H H' : HT}, H.cat l = some H' → H'.l = H.l ++ l
  | [], H, H', h => by simp only [HT.cat, Option.some.injEq] at h; subst h; simp
  | x :: r, H, H', h => by
    simp only [HT.cat] at h
    split at h
    · rename_i H1 h1
      rw [HT.cat_l h, (HT.push_l h1).1]; simp
    · cases h
theorem HT.ap_l {H H' : HT} {e : Eff} (h : H.ap e = some H') : H'.l = e.ap H.l := by
  cases e with
  | nil => simp only [HT.ap, Option.some.injEq] at h; subst h; rfl
  | push b => exact (HT.push_l h).1
  | set b x => exact HT.set_l h
  | both b y =>
    simp only [HT.ap] at h
    split at h
    · rename_i H1 h1
      rw [(HT.push_l h).1, HT.set_l h1]; rfl
    · cases h

def blankB : Nat → Nat → Nat → BT
  | 0, lo, _ => .leaf lo none
  | f + 1, lo, c => match Nat.ble c 1 with
    | true => .leaf lo none
    | false => .node (Nat.add lo (Nat.div c 2)) (blankB f lo (Nat.div c 2)) (blankB f (Nat.add lo (Nat.div c 2)) (Nat.sub c (Nat.div c 2)))
/-- The empty heap. -/
def HT.nil : HT := ⟨0, blankB 18 0 65536⟩
theorem HT.nil_l : HT.nil.l = [] := rfl

/-- A state, its temporaries in a tree. -/
structure L where
  t : TT
  h : HT
  d : List (FuncId × List V)

def getT (t : TT) (n : Nat) : V := TT.rec (motive := fun _ => V) (fun k v => Bool.rec udf v (Nat.beq n k)) (fun m _ _ gl gr => Bool.rec gl gr (Nat.ble m n)) t
def setT (t : TT) (n : Nat) (v : V) : Option TT := TT.rec (motive := fun _ => Option TT) (fun k _ => Bool.rec none (some (.leaf k v)) (Nat.beq n k))
  (fun m l r sl sr => Bool.rec (Option.rec none (fun l' => some (.node m l' r)) sl) (Option.rec none (fun r' => some (.node m l r')) sr) (Nat.ble m n)) t

theorem getT_leaf (k : Nat) (v : V) (n : Nat) : getT (.leaf k v) n = if n = k then v else udf := by
  show Bool.rec (motive := fun _ => V) udf v (Nat.beq n k) = _
  by_cases h : n = k
  · rw [if_pos h, show Nat.beq n k = true from Nat.beq_eq.mpr h]
  · rw [if_neg h, show Nat.beq n k = false from by rw [← Bool.not_eq_true, Nat.beq_eq]; exact h]
theorem getT_node (m : Nat) (l r : TT) (n : Nat) : getT (.node m l r) n = if m ≤ n then getT r n else getT l n := by
  show Bool.rec (motive := fun _ => V) (getT l n) (getT r n) (Nat.ble m n) = _
  by_cases h : m ≤ n
  · rw [if_pos h, show Nat.ble m n = true from Nat.ble_eq.mpr h]
  · rw [if_neg h, show Nat.ble m n = false from by rw [← Bool.not_eq_true, Nat.ble_eq]; exact h]
theorem setT_leaf (k : Nat) (u : V) (n : Nat) (v : V) : setT (.leaf k u) n v = if n = k then some (.leaf k v) else none := by
  show Bool.rec (motive := fun _ => Option TT) none (some (.leaf k v)) (Nat.beq n k) = _
  by_cases h : n = k
  · rw [if_pos h, show Nat.beq n k = true from Nat.beq_eq.mpr h]
  · rw [if_neg h, show Nat.beq n k = false from by rw [← Bool.not_eq_true, Nat.beq_eq]; exact h]
theorem setT_node (m : Nat) (l r : TT) (n : Nat) (v : V) : setT (.node m l r) n v = if m ≤ n then (setT r n v).map (fun r' => .node m l r') else (setT l n v).map (fun l' => .node m l' r) := by
  show Bool.rec (motive := fun _ => Option TT) (Option.rec (motive := fun _ => Option TT) none (fun l' => some (.node m l' r)) (setT l n v)) (Option.rec (motive := fun _ => Option TT) none (fun r' => some (.node m l r')) (setT r n v)) (Nat.ble m n) = _
  by_cases h : m ≤ n
  · rw [if_pos h, show Nat.ble m n = true from Nat.ble_eq.mpr h]; cases setT r n v <;> rfl
  · rw [if_neg h, show Nat.ble m n = false from by rw [← Bool.not_eq_true, Nat.ble_eq]; exact h]; cases setT l n v <;> rfl

def L.st (s : L) : St := { t := getT s.t, h := s.h.l, d := s.d }
def putT (s : L) (h : HT) : Option TT → Option L
  | some t => some ⟨t, h, s.d⟩
  | none => none
def L.put (s : L) (d : Option Nat) (v : V) (h : HT) : Option L := match d with
  | none => some ⟨s.t, h, s.d⟩
  | some d => putT s h (setT s.t d v)

theorem setT_spec : ∀ (l : TT) (d : Nat) (v : V) (l' : TT), setT l d v = some l' → ∀ n, getT l' n = if n = d then v else getT l n
  | .leaf k u, d, v, l', h, n => by
    rw [setT_leaf] at h
    split at h
    · rename_i hk
      cases h
      subst hk
      rw [getT_leaf, getT_leaf]
      split <;> rfl
    · cases h
  | .node m l r, d, v, l', h, n => by
    rw [setT_node] at h
    split at h
    · rename_i hm
      obtain ⟨r', hr, rfl⟩ := Option.map_eq_some_iff.1 h
      rw [getT_node, getT_node]
      by_cases hn : m ≤ n
      · rw [if_pos hn, if_pos hn]; exact setT_spec r d v r' hr n
      · rw [if_neg hn, if_neg hn, if_neg (by omega)]
    · rename_i hm
      obtain ⟨l2, hl, rfl⟩ := Option.map_eq_some_iff.1 h
      rw [getT_node, getT_node]
      by_cases hn : m ≤ n
      · rw [if_pos hn, if_pos hn, if_neg (by omega)]
      · rw [if_neg hn, if_neg hn]; exact setT_spec l d v l2 hl n

theorem L.put_st {s s' : L} {d : Option Nat} {v : V} {h : HT} (e : s.put d v h = some s') : s'.st = { s.st with t := Vs.put s.st.t d v, h := h.l } := by
  cases d with
  | none => simp only [L.put, Option.some.injEq] at e; subst e; rfl
  | some d =>
    simp only [L.put] at e
    cases ht : setT s.t d v with
    | none => rw [ht] at e; cases e
    | some t =>
      rw [ht] at e
      simp only [putT, Option.some.injEq] at e
      subst e
      simp only [L.st, Vs.put]
      congr 1
      funext n
      exact setT_spec _ _ _ _ ht n

abbrev CF := FuncId → List V → HT → Option (Res × HT)

def okT (t : Nat → V) (g : Option (Nat × Bool)) : Bool := wanted t g

def okL : Option L → Option (Ex × L)
  | some s => some (.normal, s)
  | none => none
def opVal (o : A) (s : L) (v : V) : Option HT → Option (Ex × L)
  | some h => okL (s.put o.dst v h)
  | none => none
def opRes (o : A) (s : L) (h : HT) : Res → Option (Ex × L)
  | .ret v => okL (s.put o.dst v h)
  | .pan v => some (.pan v, ⟨s.t, h, s.d⟩)
def opCall (o : A) (s : L) : Option (Res × HT) → Option (Ex × L)
  | some p => opRes o s p.2 p.1
  | none => none
def opRz (cf : CF) (o : A) (s : L) : RzE → Option (Ex × L)
  | .val v e => opVal o s v (s.h.ap e)
  | .skip e => opVal o s udf (s.h.ap e)
  | .call f args => opCall o s (cf f args s.h)
  | .dfr f args => okL (L.put ⟨s.t, s.h, (f, args) :: s.d⟩ o.dst udf s.h)
  | .pan v => some (.pan v, s)
def opR (cf : CF) (o : A) (s : L) : Option RzE → Option (Ex × L)
  | some r => opRz cf o s r
  | none => none
/-- One operation. -/
def evOp (x : X) (cf : CF) (o : A) (s : L) : Option (Ex × L) := match wanted (getT s.t) o.g with
  | true => opR cf o s (aopR o.i x (getT s.t) s.h.g s.h.n)
  | false => okL (s.put o.dst udf s.h)

def seqE (k : L → Option (Ex × L)) (s : L) : Ex → Option (Ex × L)
  | .normal => k s
  | .exit i => some (.exit i, s)
  | .ret => some (.ret, s)
  | .pan v => some (.pan v, s)
def seqK (k : L → Option (Ex × L)) : Option (Ex × L) → Option (Ex × L)
  | some p => seqE k p.2 p.1
  | none => none

def evOps (x : X) (cf : CF) (l : List A) : L → Option (Ex × L) := List.rec (motive := fun _ => L → Option (Ex × L)) (fun s => some (.normal, s)) (fun o _ ih s => seqK ih (evOp x cf o s)) l

/-- Calls on plain data. -/
abbrev PF := FuncId → List V → Option Res

/-- Comes to the same in whatever heap. -/
def indep (o : A) : Bool := o.i.silent || isCall o.i

/-- A region's operation: a steady one; or one that turns the heap: the new blocks that are told ahead of it, and the steady ones that are to come to the same again. -/
inductive KA where
  | st (o : A)
  | tr (o : A) (tell : List Nat) (re : List A)

def dep (ops : List A) : List Nat → List A
  | [] => []
  | j :: r => match nthA ops j with
    | some o => match indep o with
      | true => dep ops r
      | false => o :: dep ops r
    | none => dep ops r

def kOf (ops : List A) (L0 : List Nat) : List (Nat × Option (List Nat)) → List KA
  | [] => []
  | (i, none) :: r => match nthA ops i with
    | some o => .st o :: kOf ops L0 r
    | none => []
  | (i, some re) :: r => match nthA ops i with
    | some o => .tr o (nd ops L0 i) (dep ops re) :: kOf ops L0 r
    | none => []

def allIn : List Nat → List Nat → Bool
  | [], _ => true
  | a :: r, l => memN a l && allIn r l

/-- This place is not looked at or filled by those. -/
def apart (ops : List A) (d : Nat) : List Nat → Bool
  | [] => true
  | j :: r => (match nthA ops j with
    | some b => !memN d b.looks && (match b.dst with | some e => !(Nat.beq e d) | none => true)
    | none => false) && apart ops d r
def apartO (ops : List A) (d : Option Nat) (l : List Nat) : Bool := match d with
  | some d => apart ops d l
  | none => true
def apartTs (ops : List A) (sn : List Nat) : List Nat → Bool
  | [] => true
  | a :: r => (match nthA ops a with
    | some o => apartO ops o.dst sn
    | none => false) && apartTs ops sn r

/-- What does not hang on the data. -/
def stLin (ops : List A) (L0 : List Nat) : List Nat → List (Nat × Option (List Nat)) → Bool
  | _, [] => true
  | sn, (i, none) :: r => (match nthA ops i with
    | some o => (o.i.reads || isCall o.i) && (match o.dst with
      | some d => apart ops d sn && !memN d o.looks
      | none => false)
    | none => false) && stLin ops L0 (i :: sn) r
  | sn, (i, some re) :: r => (match nthA ops i with
    | some o => apartO ops o.dst re && allIn re sn && apartTs ops re (nd ops L0 i)
    | none => false) && stLin ops L0 re r

def stC : C → Bool
  | .dreg ops (.lin L0 l) => stLin ops L0 [] l
  | .dreg _ .done => true
  | .dreg _ _ => false
  | .seq a b => stC a && stC b
  | .cond _ a b => stC a && stC b
  | .block _ c => stC c
  | .loop c => stC c
  | _ => true

def opPRes : Option Res → Option V
  | some (.ret v) => some v
  | _ => none
def opP (pf : PF) : Option RzE → Option V
  | some (.val v _) => some v
  | some (.call f args) => opPRes (pf f args)
  | _ => none
def evOpP (x : X) (pf : PF) (o : A) (t : Nat → V) (h : HT) : Option V := match wanted t o.g with
  | true => opP pf (aopR o.i x t h.g h.n)
  | false => some udf

/-- It comes to the same still. -/
def evAgain (x : X) (pf : PF) (s : L) (b : A) : Bool := match b.dst with
  | some e => match evOpP x pf b (getT s.t) s.h with
    | some v => beqV v (getT s.t e)
    | none => false
  | none => false
def evAgains (x : X) (pf : PF) (s : L) : List A → Bool
  | [] => true
  | b :: r => match evAgain x pf s b with
    | true => evAgains x pf s r
    | false => false

def tellE (ops : List A) : List Nat → L → Option L
  | [], s => some s
  | a :: r, s => match nthA ops a with
    | some ⟨some d, .new z ty, _⟩ => match s.h.push (some (.cells z ty)) with
      | some h => match s.put (some d) (.ptr s.h.n 0) h with
        | some s' => tellE ops r s'
        | none => none
      | none => none
    | _ => none


def againK (k : L → Option (Ex × L)) (s : L) : Bool → Option (Ex × L)
  | true => k s
  | false => none
def trE (x : X) (pf : PF) (re : List A) (k : L → Option (Ex × L)) (s : L) : Ex → Option (Ex × L)
  | .normal => againK k s (evAgains x pf s re)
  | _ => none
def trK (x : X) (pf : PF) (re : List A) (k : L → Option (Ex × L)) : Option (Ex × L) → Option (Ex × L)
  | some p => trE x pf re k p.2 p.1
  | none => none
def tellK (x : X) (cf : CF) (pf : PF) (o : A) (re : List A) (k : L → Option (Ex × L)) : Option L → Option (Ex × L)
  | some s => trK x pf re k (evOp x cf o s)
  | none => none
def stP (k : L → Option (Ex × L)) : Option L → Option (Ex × L)
  | some s => k s
  | none => none
def stV (o : A) (k : L → Option (Ex × L)) (s : L) : Option V → Option (Ex × L)
  | some v => stP k (s.put o.dst v s.h)
  | none => none
/-- A call of plain data: it turns no heap, so nothing is looked at again. -/
def pureV (x : X) (pf : PF) (o : A) (s : L) : Option V := match isCall o.i with
  | true => evOpP x pf o (getT s.t) s.h
  | false => none
def trP (k : L → Option (Ex × L)) (s : L) (o : A) (alt : Option (Ex × L)) : Option V → Option (Ex × L)
  | some v => stP k (s.put o.dst v s.h)
  | none => alt
/-- The one block that a store turns. -/
def chgR : Option RzE → Option Nat
  | some (.skip (.set c _)) => some c
  | _ => none
def chg (x : X) (o : A) (s : L) : Option Nat := match wanted (getT s.t) o.g with
  | true => chgR (aopR o.i x (getT s.t) s.h.g s.h.n)
  | false => none
def ofOther (c : Nat) : V → Bool
  | .ptr b _ => !(Nat.beq b c)
  | _ => false
/-- A load from another block. -/
def skipB (x : X) (s : L) (b : A) : Option Nat → Bool
  | some c => match b.i with
    | .load _ _ a => ofOther c (evO a x (getT s.t))
    | _ => false
  | none => false
def evAgainsC (x : X) (pf : PF) (s : L) (c : Option Nat) : List A → Bool
  | [] => true
  | b :: r => match skipB x s b c with
    | true => evAgainsC x pf s c r
    | false => match evAgain x pf s b with
      | true => evAgainsC x pf s c r
      | false => false
def trEC (x : X) (pf : PF) (c : Option Nat) (re : List A) (k : L → Option (Ex × L)) (s : L) : Ex → Option (Ex × L)
  | .normal => againK k s (evAgainsC x pf s c re)
  | _ => none
def trKC (x : X) (pf : PF) (c : Option Nat) (re : List A) (k : L → Option (Ex × L)) : Option (Ex × L) → Option (Ex × L)
  | some p => trEC x pf c re k p.2 p.1
  | none => none
def shP : List Nat → List A → Bool
  | [], _ :: _ => true
  | _, _ => false
def evKA (x : X) (cf : CF) (pf : PF) (ops : List A) (k : L → Option (Ex × L)) (s : L) : KA → Option (Ex × L)
  | .st o => stV o k s (evOpP x pf o (getT s.t) s.h)
  | .tr o ns re => match shP ns re with
    | true => trP k s o (trKC x pf (chg x o s) re k (evOp x cf o s)) (pureV x pf o s)
    | false => tellK x cf pf o re k (tellE ops ns s)
def evKs (x : X) (cf : CF) (pf : PF) (ops : List A) (l : List KA) : L → Option (Ex × L) :=
  List.rec (motive := fun _ => L → Option (Ex × L)) (fun s => some (.normal, s)) (fun a _ ih s => evKA x cf pf ops ih s a) l

def loopK (b : L → Option (Ex × L)) : Nat → L → Option (Ex × L)
  | 0, _ => none
  | n + 1, s => seqK (loopK b n) (b s)
def condK (a b : Option (Ex × L)) : V → Option (Ex × L)
  | .bool true => a
  | .bool false => b
  | _ => none
def blockE (id : Nat) (s : L) : Ex → Option (Ex × L)
  | .exit i => match Nat.beq i id with
    | true => some (.normal, s)
    | false => some (.exit i, s)
  | e => some (e, s)
def blockK (id : Nat) : Option (Ex × L) → Option (Ex × L)
  | some p => blockE id p.2 p.1
  | none => none
def dregK (x : X) (cf : CF) (pf : PF) (ops : List A) (s : L) : D → Option (Ex × L)
  | .lin L0 l => evKs x cf pf ops (kOf ops L0 l) s
  | .done => some (.normal, s)
  | _ => none

def evC (c : C) : X → CF → PF → Nat → L → Option (Ex × L) := C.rec (motive := fun _ => X → CF → PF → Nat → L → Option (Ex × L))
  (fun _ _ _ _ s => some (.normal, s))
  (fun ops x cf _ _ s => evOps x cf ops s)
  (fun ops d x cf pf _ s => dregK x cf pf ops s d)
  (fun _ _ iha ihb x cf pf n s => seqK (ihb x cf pf n) (iha x cf pf n s))
  (fun o _ _ iha ihb x cf pf n s => condK (iha x cf pf n s) (ihb x cf pf n s) (evO o x (getT s.t)))
  (fun id _ ih x cf pf n s => blockK id (ih x cf pf n s))
  (fun _ ih x cf pf n s => loopK (ih x cf pf n) n s)
  (fun id _ _ _ _ s => some (.exit id, s))
  (fun _ _ _ _ s => some (.ret, s))
  (fun _ _ _ _ _ => none) c

/-- What calls come to. -/
def Sd (x : X) (cf : CF) : Prop := ∀ f args h r h', cf f args h = some (r, h') → ACalls x f args h.l fun a b => a = r ∧ b = h'.l
def Sp (x : X) (pf : PF) : Prop := ∀ f args r, pf f args = some r → ∀ h, ACalls x f args h fun a b => a = r ∧ b = h

section
variable {x : X} {cf : CF} {pf : PF}

theorem aop_rz (i : I) (x : X) (t : Nat → V) (H : HT) : aop x t H.l i = (aopR i x t H.g H.n).map (RzE.to H.l) := by
  rw [aopE_eq, HT.g_eq, HT.len, aopR_eq]
theorem okL_some {a : Option L} {e : Ex} {s' : L} (h : okL a = some (e, s')) : e = .normal ∧ a = some s' := by
  cases a with
  | none => cases h
  | some s => simp only [okL, Option.some.injEq, Prod.mk.injEq] at h; exact ⟨h.1.symm, by rw [h.2]⟩

theorem evOp_sound (hcf : Sd x cf) {o : A} {s s' : L} {e : Ex} (he : evOp x cf o s = some (e, s')) {Q : Ex → St → Prop} {K : St → Prop} (hK : e = .normal → K s'.st) (hQ : ∀ v, e = .pan v → Q (.pan v) s'.st) : vop x o Q K s.st := by
  unfold evOp at he
  unfold vop
  cases hw : wanted (getT s.t) o.g with
  | false =>
    rw [hw] at he
    rw [if_neg (show ¬ wanted s.st.t o.g = true by rw [show wanted s.st.t o.g = false from hw]; simp)]
    obtain ⟨rfl, hp⟩ := okL_some he
    have := hK rfl
    rw [L.put_st hp] at this
    exact this
  | true =>
    rw [hw] at he
    rw [if_pos (show wanted s.st.t o.g = true from hw), show aop x s.st.t s.st.h o.i = _ from aop_rz o.i x (getT s.t) s.h]
    simp only at he
    cases hr : aopR o.i x (getT s.t) s.h.g s.h.n with
    | none => rw [hr] at he; cases he
    | some r =>
      rw [hr] at he
      simp only [opR] at he
      simp only [Option.map_some]
      cases r with
      | val v ef =>
        simp only [opRz] at he
        cases hh : s.h.ap ef with
        | none => rw [hh] at he; cases he
        | some h1 =>
          rw [hh] at he
          obtain ⟨rfl, hp⟩ := okL_some he
          have := hK rfl
          rw [L.put_st hp, HT.ap_l hh] at this
          exact this
      | skip ef =>
        simp only [opRz] at he
        cases hh : s.h.ap ef with
        | none => rw [hh] at he; cases he
        | some h1 =>
          rw [hh] at he
          obtain ⟨rfl, hp⟩ := okL_some he
          have := hK rfl
          rw [L.put_st hp, HT.ap_l hh] at this
          exact this
      | call f args =>
        simp only [opRz] at he
        cases hc : cf f args s.h with
        | none => rw [hc] at he; cases he
        | some p =>
          rw [hc] at he
          obtain ⟨r, h1⟩ := p
          refine (hcf _ _ _ _ _ hc).mono ?_
          rintro a b ⟨rfl, rfl⟩
          cases a with
          | ret v =>
            obtain ⟨rfl, hp⟩ := okL_some he
            have := hK rfl
            rw [L.put_st hp] at this
            exact this
          | pan v =>
            simp only [opCall, opRes, Option.some.injEq, Prod.mk.injEq] at he
            obtain ⟨rfl, rfl⟩ := he
            exact hQ v rfl
      | dfr f args =>
        simp only [opRz] at he
        obtain ⟨rfl, hp⟩ := okL_some he
        have := hK rfl
        rw [L.put_st hp] at this
        exact this
      | pan v =>
        simp only [opRz, Option.some.injEq, Prod.mk.injEq] at he
        obtain ⟨rfl, rfl⟩ := he
        exact hQ v rfl

theorem evOp_ex {o : A} {s s' : L} {e : Ex} (he : evOp x cf o s = some (e, s')) : e = .normal ∨ ∃ v, e = .pan v := by
  unfold evOp at he
  cases hw : wanted (getT s.t) o.g with
  | false => rw [hw] at he; exact .inl (okL_some he).1
  | true =>
    rw [hw] at he
    simp only at he
    cases hr : aopR o.i x (getT s.t) s.h.g s.h.n with
    | none => rw [hr] at he; cases he
    | some r =>
      rw [hr] at he
      simp only [opR] at he
      cases r with
      | val v ef => simp only [opRz] at he; cases hh : s.h.ap ef <;> rw [hh] at he <;> first | cases he; done | exact .inl (okL_some he).1
      | skip ef => simp only [opRz] at he; cases hh : s.h.ap ef <;> rw [hh] at he <;> first | cases he; done | exact .inl (okL_some he).1
      | call f args =>
        simp only [opRz] at he
        cases hc : cf f args s.h with
        | none => rw [hc] at he; cases he
        | some p =>
          rw [hc] at he
          obtain ⟨r, h1⟩ := p
          cases r with
          | ret v => exact .inl (okL_some he).1
          | pan v => simp only [opCall, opRes, Option.some.injEq, Prod.mk.injEq] at he; exact .inr ⟨v, he.1.symm⟩
      | dfr f args => exact .inl (okL_some he).1
      | pan v => simp only [opRz, Option.some.injEq, Prod.mk.injEq] at he; exact .inr ⟨v, he.1.symm⟩

theorem seqK_some {k : L → Option (Ex × L)} {a : Option (Ex × L)} {e : Ex} {s' : L} (h : seqK k a = some (e, s')) : (∃ s1, a = some (.normal, s1) ∧ k s1 = some (e, s')) ∨ (e ≠ .normal ∧ a = some (e, s')) := by
  cases a with
  | none => cases h
  | some p =>
    obtain ⟨e1, s1⟩ := p
    cases e1 <;> simp only [seqK, seqE, Option.some.injEq, Prod.mk.injEq] at h
    · exact .inl ⟨s1, rfl, h⟩
    all_goals
      obtain ⟨rfl, rfl⟩ := h
      exact .inr ⟨by simp, rfl⟩

theorem evOps_nil (s : L) : evOps x cf [] s = some (.normal, s) := rfl
theorem evOps_cons (o : A) (r : List A) (s : L) : evOps x cf (o :: r) s = seqK (evOps x cf r) (evOp x cf o s) := rfl

theorem evOps_sound (hcf : Sd x cf) : ∀ (ops : List A) (s s' : L) (e : Ex), evOps x cf ops s = some (e, s') → ∀ Q : Ex → St → Prop, Q e s'.st → vops x Q ops s.st
  | [], s, s', e, he, Q, hq => by simp only [evOps_nil, Option.some.injEq, Prod.mk.injEq] at he; obtain ⟨rfl, rfl⟩ := he; exact hq
  | o :: r, s, s', e, he, Q, hq => by
    rw [evOps_cons] at he
    rcases seqK_some he with ⟨s1, h1, h2⟩ | ⟨hne, h1⟩
    · exact evOp_sound hcf h1 (fun _ => evOps_sound hcf r s1 s' e h2 Q hq) (fun v hv => by cases hv)
    · rcases evOp_ex h1 with rfl | ⟨v, rfl⟩
      · exact absurd rfl hne
      · exact evOp_sound hcf h1 (fun hv => by cases hv) (fun v' hv => by cases hv; exact hq)

theorem opP_some {r : Option RzE} {v : V} (h : opP pf r = some v) : (∃ e, r = some (.val v e)) ∨ ∃ f args, r = some (.call f args) ∧ pf f args = some (.ret v) := by
  cases r with
  | none => cases h
  | some r =>
    cases r with
    | val w e => simp only [opP, Option.some.injEq] at h; subst h; exact .inl ⟨e, rfl⟩
    | call f args =>
      simp only [opP] at h
      cases hp : pf f args with
      | none => rw [hp] at h; cases h
      | some q =>
        rw [hp] at h
        cases q with
        | ret w => simp only [opPRes, Option.some.injEq] at h; subst h; exact .inr ⟨f, args, rfl, hp⟩
        | pan w => cases h
    | _ => cases h

theorem call_noval {t : Nat → V} {h : Hp} {i : I} (hc : isCall i = true) {v : V} {h' : Hp} (ha : aop x t h i = some (.val v h')) : False := by
  unfold isCall at hc
  split at hc
  · rename_i f args
    simp only [aop] at ha
    cases hcv : callV (O.ev x t f) (evs x t args) <;> rw [hcv] at ha <;> simp at ha
  · rename_i r m args
    simp only [aop] at ha
    repeat' split at ha
    all_goals first
      | cases ha
      | (rename_i cs _ ; revert ha; cases cs[_]? <;> simp)
      | skip
    all_goals (simp at ha)
  · cases hc

theorem evOpP_val (hpf : Sp x pf) {o : A} (hst : (o.i.reads || isCall o.i) = true) {t : Nat → V} {h : HT} {v : V} (he : evOpP x pf o t h = some v) : Val x o t h.l v := by
  unfold evOpP at he
  cases hw : wanted t o.g with
  | false => rw [hw] at he; cases he; exact ⟨fun h => (by rw [hw] at h; cases h), fun _ => rfl⟩
  | true =>
    rw [hw] at he
    refine ⟨fun _ => ?_, fun h => (by rw [hw] at h; cases h)⟩
    rcases opP_some he with ⟨ef, hr⟩ | ⟨f, args, hr, hp⟩
    · have ha : aop x t h.l o.i = some (.val v (ef.ap h.l)) := by rw [aop_rz, hr]; rfl
      simp only [Bool.or_eq_true] at hst
      rcases hst with hrd | hc
      · obtain ⟨v2, e⟩ := reads_eq hrd ha
        have e2 : ef.ap h.l = h.l := by injection e
        rw [e2] at ha
        exact .inl ha
      · exact (call_noval hc ha).elim
    · have ha : aop x t h.l o.i = some (.call f args) := by rw [aop_rz, hr]; rfl
      exact .inr ⟨f, args, ha, hpf f args _ hp h.l⟩

theorem evOpP_ind (hpf : Sp x pf) {o : A} (hin : indep o = true) {t : Nat → V} {h : HT} {v : V} (he : evOpP x pf o t h = some v) (g : Hp) : Val x o t g v := by
  unfold evOpP at he
  cases hw : wanted t o.g with
  | false => rw [hw] at he; cases he; exact ⟨fun h => (by rw [hw] at h; cases h), fun _ => rfl⟩
  | true =>
    rw [hw] at he
    refine ⟨fun _ => ?_, fun h => (by rw [hw] at h; cases h)⟩
    rcases opP_some he with ⟨ef, hr⟩ | ⟨f, args, hr, hp⟩
    · have ha : aop x t h.l o.i = some (.val v (ef.ap h.l)) := by rw [aop_rz, hr]; rfl
      simp only [indep, Bool.or_eq_true] at hin
      rcases hin with hs | hc
      · refine .inl ?_
        rw [silent_eq hs h.l] at ha
        rw [silent_eq hs g]
        simp only [Option.map_eq_some_iff] at ha ⊢
        obtain ⟨v2, h2, e⟩ := ha
        have e1 : v2 = v := by injection e
        rw [e1] at h2
        exact ⟨_, h2, rfl⟩
      · exact (call_noval hc ha).elim
    · have ha : aop x t h.l o.i = some (.call f args) := by rw [aop_rz, hr]; rfl
      exact .inr ⟨f, args, aop_call_heap ha g, hpf f args _ hp g⟩

/-- What is known of those that came. -/
def Kn (x : X) (ops : List A) (sn : List Nat) (s : St) : Prop := ∀ j ∈ sn, ∃ o e, ops[j]? = some o ∧ o.dst = some e ∧ (o.i.reads || isCall o.i) = true ∧ Val x o s.t s.h (s.t e) ∧ (indep o = true → ∀ h, Val x o s.t h (s.t e))
def Kd (x : X) (ops : List A) (sn : List Nat) (t : Nat → V) : Prop := ∀ j ∈ sn, ∃ o e, ops[j]? = some o ∧ o.dst = some e ∧ (o.i.reads || isCall o.i) = true ∧ (indep o = true → ∀ h, Val x o t h (t e))

theorem apart_spec {ops : List A} {d : Nat} : ∀ {sn : List Nat}, apart ops d sn = true → ∀ j ∈ sn, ∀ b, ops[j]? = some b → d ∉ b.looks ∧ b.dst ≠ some d
  | [], _, j, hj, b, hb => by cases hj
  | k :: r, h, j, hj, b, hb => by
    simp only [apart, Bool.and_eq_true, nthA_eq] at h
    rcases List.mem_cons.1 hj with rfl | hj
    · have h1 := h.1
      rw [hb] at h1
      simp only [Bool.and_eq_true, Bool.not_eq_true', ← Bool.not_eq_true, memN_iff] at h1
      refine ⟨h1.1, fun hd => ?_⟩
      rw [hd] at h1
      simp at h1
    · exact apart_spec h.2 j hj b hb

theorem Kn.put {ops : List A} {sn : List Nat} {s : St} (H : Kn x ops sn s) {d : Nat} (h : apart ops d sn = true) (v : V) : Kn x ops sn { s with t := Vs.put s.t (some d) v } := fun j hj => by
  obtain ⟨o, e, h1, h2, h0, h3, h4⟩ := H j hj
  obtain ⟨g1, g2⟩ := apart_spec h j hj o h1
  have e1 : Vs.put s.t (some d) v e = s.t e := put_ne fun hh => g2 (by rw [h2, ← hh])
  have e2 : ∀ n ∈ o.looks, s.t n = Vs.put s.t (some d) v n := fun n hn => (put_ne fun hh => g1 (by cases hh; exact hn)).symm
  refine ⟨o, e, h1, h2, h0, ?_, fun hf h => ?_⟩
  · show Val x o _ s.h (Vs.put s.t (some d) v e)
    rw [e1]
    exact h3.congr e2
  · show Val x o _ h (Vs.put s.t (some d) v e)
    rw [e1]
    exact (h4 hf h).congr e2

theorem Kd.put {ops : List A} {sn : List Nat} {t : Nat → V} (H : Kd x ops sn t) {d : Option Nat} (h : apartO ops d sn = true) (v : V) : Kd x ops sn (Vs.put t d v) := fun j hj => by
  obtain ⟨o, e, h1, h2, h0, h4⟩ := H j hj
  cases d with
  | none => exact ⟨o, e, h1, h2, h0, h4⟩
  | some d =>
    obtain ⟨g1, g2⟩ := apart_spec h j hj o h1
    have e1 : Vs.put t (some d) v e = t e := put_ne fun hh => g2 (by rw [h2, ← hh])
    refine ⟨o, e, h1, h2, h0, fun hf h => ?_⟩
    rw [e1]
    exact (h4 hf h).congr fun n hn => (put_ne fun hh => g1 (by cases hh; exact hn)).symm

theorem Kd.tell {ops : List A} {sn : List Nat} : ∀ {l : List Nat} {s : St}, Kd x ops sn s.t → apartTs ops sn l = true → Kd x ops sn (tell ops l s).t
  | [], s, H, _ => H
  | a :: r, s, H, h => by
    simp only [apartTs, Bool.and_eq_true, nthA_eq] at h
    obtain ⟨h1, h2⟩ := h
    refine Kd.tell (s := tell1 s ops[a]?) ?_ h2
    cases ha : ops[a]? with
    | none => exact H
    | some o =>
      rw [ha] at h1
      simp only at h1
      unfold tell1
      split
      · rename_i d z ty g hh
        cases hh
        exact H.put h1 _
      · exact H

theorem allIn_spec : ∀ {a b : List Nat}, allIn a b = true → ∀ n ∈ a, n ∈ b
  | [], b, _, n, hn => by cases hn
  | k :: r, b, h, n, hn => by
    simp only [allIn, Bool.and_eq_true, memN_iff] at h
    rcases List.mem_cons.1 hn with rfl | hn
    · exact h.1
    · exact allIn_spec h.2 n hn

theorem tellE_st {ops : List A} : ∀ {l : List Nat} {s s' : L}, tellE ops l s = some s' → s'.st = tell ops l s.st
  | [], s, s', h => by simp only [tellE, Option.some.injEq] at h; subst h; rfl
  | a :: r, s, s', h => by
    simp only [tellE, nthA_eq] at h
    split at h
    · rename_i d z ty g ha
      split at h
      · rename_i H1 hp1
        split at h
        · rename_i s1 h1
          rw [tellE_st h, L.put_st h1]
          simp only [tell, ha, tell1, (HT.push_l hp1).1]
          simp only [L.st, HT.len]
        · cases h
      · cases h
    · cases h

theorem evOp_t {o : A} {s s' : L} (he : evOp x cf o s = some (.normal, s')) : ∃ v, s'.st.t = Vs.put s.st.t o.dst v := by
  have fin : ∀ {s0 : L} {v : V} {h : HT}, s0.t = s.t → s0.put o.dst v h = some s' → ∃ v, s'.st.t = Vs.put s.st.t o.dst v := fun {s0 v h} h0 hp => ⟨v, by rw [L.put_st hp]; simp only [L.st, h0]⟩
  unfold evOp at he
  cases hw : wanted (getT s.t) o.g with
  | false => rw [hw] at he; exact fin rfl (okL_some he).2
  | true =>
    rw [hw] at he
    simp only at he
    cases hr : aopR o.i x (getT s.t) s.h.g s.h.n with
    | none => rw [hr] at he; cases he
    | some r =>
      rw [hr] at he
      simp only [opR] at he
      cases r with
      | val v ef => simp only [opRz] at he; cases hh : s.h.ap ef <;> rw [hh] at he <;> first | cases he; done | exact fin rfl (okL_some he).2
      | skip ef => simp only [opRz] at he; cases hh : s.h.ap ef <;> rw [hh] at he <;> first | cases he; done | exact fin rfl (okL_some he).2
      | call f args =>
        simp only [opRz] at he
        cases hc : cf f args s.h with
        | none => rw [hc] at he; cases he
        | some p =>
          rw [hc] at he
          obtain ⟨r, h1⟩ := p
          cases r with
          | ret v => exact fin rfl (okL_some he).2
          | pan v => simp only [opCall, opRes, Option.some.injEq, Prod.mk.injEq] at he; cases he.1
      | dfr f args => exact fin (s0 := ⟨s.t, s.h, (f, args) :: s.d⟩) rfl (okL_some he).2
      | pan v => simp only [opRz, Option.some.injEq, Prod.mk.injEq] at he; cases he.1

theorem evAgain_val (hpf : Sp x pf) {s : L} {b : A} {e : Nat} (hd : b.dst = some e) (hr : (b.i.reads || isCall b.i) = true) (h : evAgain x pf s b = true) : Val x b (getT s.t) s.h.l (getT s.t e) := by
  unfold evAgain at h
  rw [hd] at h
  simp only at h
  split at h
  · rename_i v hv
    rw [← beqV_eq _ _ h]
    exact evOpP_val hpf hr hv
  · cases h

theorem evAgains_mem {s : L} : ∀ {l : List A}, evAgains x pf s l = true → ∀ b ∈ l, evAgain x pf s b = true
  | [], _, b, hb => by cases hb
  | a :: r, h, b, hb => by
    simp only [evAgains] at h
    split at h
    · rename_i ha
      rcases List.mem_cons.1 hb with rfl | hb
      · exact ha
      · exact evAgains_mem h b hb
    · cases h

theorem dep_mem {ops : List A} {j : Nat} {o : A} (ho : ops[j]? = some o) (hi : indep o = false) : ∀ {l : List Nat}, j ∈ l → o ∈ dep ops l := by
  intro l
  induction l with
  | nil => intro hj; cases hj
  | cons k r ih =>
    intro hj
    unfold dep
    rw [nthA_eq]
    rcases List.mem_cons.1 hj with rfl | hj
    · rw [ho]; simp only [hi]; exact List.mem_cons_self ..
    · have := ih hj
      cases ops[k]? with
      | none => exact this
      | some b =>
        simp only
        cases indep b with
        | true => exact this
        | false => exact List.mem_cons_of_mem _ this

theorem evKs_nil {ops : List A} (s : L) : evKs x cf pf ops [] s = some (.normal, s) := rfl
theorem evKs_st {ops : List A} (o : A) (r : List KA) (s : L) : evKs x cf pf ops (.st o :: r) s = stV o (evKs x cf pf ops r) s (evOpP x pf o (getT s.t) s.h) := rfl
theorem evKs_tr {ops : List A} (o : A) (ns : List Nat) (re : List A) (r : List KA) (s : L) {z : Ex × L} (he : evKs x cf pf ops (.tr o ns re :: r) s = some z) : tellK x cf pf o re (evKs x cf pf ops r) (tellE ops ns s) = some z ∨ (ns = [] ∧ isCall o.i = true ∧ ∃ v, evOpP x pf o (getT s.t) s.h = some v ∧ stP (evKs x cf pf ops r) (s.put o.dst v s.h) = some z) ∨ (ns = [] ∧ trKC x pf (chg x o s) re (evKs x cf pf ops r) (evOp x cf o s) = some z) := by
  have he : (match shP ns re with
    | true => trP (evKs x cf pf ops r) s o (trKC x pf (chg x o s) re (evKs x cf pf ops r) (evOp x cf o s)) (pureV x pf o s)
    | false => tellK x cf pf o re (evKs x cf pf ops r) (tellE ops ns s)) = some z := he
  split at he
  · rename_i hs
    have hns : ns = [] := by
      cases ns with
      | nil => rfl
      | cons a b => cases hs
    unfold pureV at he
    split at he
    · rename_i hc
      cases hv : evOpP x pf o (getT s.t) s.h with
      | none => rw [hv] at he; exact .inr (.inr ⟨hns, he⟩)
      | some v =>
        rw [hv] at he
        exact .inr (.inl ⟨hns, hc, v, rfl, he⟩)
    · exact .inr (.inr ⟨hns, he⟩)
  · exact .inl he
theorem evOp_chg {o : A} {s s' : L} {c : Nat} (hc : chg x o s = some c) (he : evOp x cf o s = some (.normal, s')) : ∀ b, b ≠ c → hget s'.h.l b = hget s.h.l b := by
  unfold chg at hc
  split at hc
  · rename_i hw
    unfold evOp at he
    rw [hw] at he
    simp only at he
    unfold chgR at hc
    split at hc
    · rename_i c' y hr
      cases hc
      rw [hr] at he
      simp only [opR, opRz] at he
      cases hh : s.h.ap (.set c y) with
      | none => rw [hh] at he; cases he
      | some H =>
        rw [hh] at he
        simp only [opVal] at he
        have hp := (okL_some he).2
        have h1 := congrArg St.h (L.put_st hp)
        have h1 : s'.h.l = H.l := h1
        have h2 := HT.ap_l hh
        intro b hb
        rw [h1, h2]
        unfold hget
        rw [Eff.ap, List.getElem?_set_ne (fun e => hb e.symm)]
    · cases hc
  · cases hc
theorem skipB_val {s s2 : L} {b : A} {c : Nat} {t : Nat → V} {v : V} (hs : skipB x s2 b (some c) = true) (ht : ∀ n ∈ b.looks, getT s2.t n = t n) (hh : ∀ k, k ≠ c → hget s2.h.l k = hget s.h.l k) (hv : Val x b t s.h.l v) : Val x b t s2.h.l v := by
  simp only [skipB] at hs
  split at hs
  · rename_i n ag a hi
    have e0 : evO a x (getT s2.t) = a.ev x (getT s2.t) := evO_eq ..
    have e1 : a.ev x (getT s2.t) = a.ev x t := by
      cases a with
      | t m => exact ht m (by simp [A.looks, hi, I.uses, O.use])
      | k v => rfl
      | g n => rfl
    rw [e0, e1] at hs
    have key : aop x t s2.h.l b.i = some (.val v s2.h.l) ∨ ¬ (aop x t s.h.l b.i = some (.val v s.h.l)) := by
      rw [hi]
      simp only [aop]
      generalize a.ev x t = u at hs
      cases u with
      | ptr k o =>
        simp only [ofOther, Bool.not_eq_true'] at hs
        have hk : k ≠ c := fun e => by rw [e] at hs; simp at hs
        have er : rd s2.h.l (.ptr k o) n = rd s.h.l (.ptr k o) n := by simp only [rd, hh k hk]
        rw [er]
        cases ((rd s.h.l (.ptr k o) n).bind (asV ag)) with
        | none => right; simp
        | some w =>
          by_cases hw : w = v
          · left; rw [hw]; rfl
          · right; simp [hw]
      | _ => cases hs
    refine ⟨fun hw => ?_, hv.2⟩
    rcases hv.1 hw with h1 | ⟨f, args, h1, h2⟩
    · rcases key with k1 | k1
      · exact .inl k1
      · exact absurd h1 k1
    · rw [hi] at h1
      simp only [aop] at h1
      cases hx : ((rd s.h.l (a.ev x t) n).bind (asV ag)) <;> rw [hx] at h1 <;> cases h1
  · cases hs
theorem evAgainsC_mem {s : L} {c : Option Nat} : ∀ {l : List A}, evAgainsC x pf s c l = true → ∀ b ∈ l, skipB x s b c = true ∨ evAgain x pf s b = true
  | [], _, b, hb => by cases hb
  | a :: r, h, b, hb => by
    simp only [evAgainsC] at h
    split at h
    · rename_i ha
      rcases List.mem_cons.1 hb with rfl | hb
      · exact .inl ha
      · exact evAgainsC_mem h b hb
    · split at h
      · rename_i ha
        rcases List.mem_cons.1 hb with rfl | hb
        · exact .inr ha
        · exact evAgainsC_mem h b hb
      · cases h
theorem vop_of_val {o : A} {Q : Ex → St → Prop} {K : St → Prop} {s : St} {v : V} (h : Val x o s.t s.h v) (hk : K { s with t := Vs.put s.t o.dst v }) : vop x o Q K s := by
  unfold vop
  cases hw : wanted s.t o.g with
  | true =>
    rw [if_pos rfl]
    rcases h.1 hw with e | ⟨f, args, e, hc⟩
    · rw [e]; exact hk
    · rw [e]
      refine hc.mono ?_
      rintro a b ⟨rfl, rfl⟩
      exact hk
  | false =>
    rw [if_neg (by decide)]
    have := h.2 hw
    subst this
    exact hk

theorem evKs_sound (hcf : Sd x cf) (hpf : Sp x pf) {ops : List A} {L0 : List Nat} : ∀ (l : List (Nat × Option (List Nat))) (sn : List Nat) (s s' : L) (e : Ex), stLin ops L0 sn l = true → evKs x cf pf ops (kOf ops L0 l) s = some (e, s') → Kn x ops sn s.st → ∀ Q : Ex → St → Prop, Q e s'.st → vLin x ops L0 Q l s.st
  | [], sn, s, s', e, hk, he, H, Q, hq => by
    simp only [kOf, evKs_nil, Option.some.injEq, Prod.mk.injEq] at he
    obtain ⟨rfl, rfl⟩ := he
    exact hq
  | (i, none) :: r, sn, s, s', e, hk, he, H, Q, hq => by
    simp only [stLin, nthA_eq, Bool.and_eq_true] at hk
    obtain ⟨hk1, hk2⟩ := hk
    cases ho : ops[i]? with
    | none => rw [ho] at hk1; cases hk1
    | some o =>
      rw [ho] at hk1
      simp only [Bool.and_eq_true] at hk1
      obtain ⟨hr, hk1⟩ := hk1
      cases hd : o.dst with
      | none => rw [hd] at hk1; cases hk1
      | some d =>
        rw [hd] at hk1
        simp only [Bool.and_eq_true, Bool.not_eq_true', ← Bool.not_eq_true, memN_iff] at hk1
        simp only [kOf, nthA_eq, ho, evKs_st] at he
        cases hv : evOpP x pf o (getT s.t) s.h with
        | none => rw [hv] at he; cases he
        | some v =>
          rw [hv] at he
          simp only [stV] at he
          cases h1 : s.put o.dst v s.h with
          | none => rw [h1] at he; cases he
          | some s1 =>
            rw [h1] at he
            simp only [stP] at he
            have hs1 := L.put_st h1
            refine ⟨o, v, ho, evOpP_val hpf hr hv, ?_⟩
            have h2 := evKs_sound hcf hpf r _ s1 s' e hk2 he (by
              rw [hs1, hd]
              intro j hj
              rcases List.mem_cons.1 hj with rfl | hj
              · have e1 : ∀ n ∈ o.looks, s.st.t n = Vs.put s.st.t (some d) v n := fun n hn => (put_ne fun hh => hk1.2 (by cases hh; exact hn)).symm
                have e2 : Vs.put s.st.t (some d) v d = v := put_self ..
                refine ⟨o, d, ho, hd, hr, ?_, fun hf h => ?_⟩
                · show Val x o _ s.h.l (Vs.put s.st.t (some d) v d)
                  rw [e2]; exact Val.congr e1 (evOpP_val hpf hr hv)
                · show Val x o _ h (Vs.put s.st.t (some d) v d)
                  rw [e2]; exact Val.congr e1 (evOpP_ind hpf hf hv h)
              · exact H.put hk1.1 v j hj) Q hq
            rw [hs1] at h2
            exact h2
  | (i, some re) :: r, sn, s, s', e, hk, he, H, Q, hq => by
    simp only [stLin, nthA_eq, Bool.and_eq_true] at hk
    obtain ⟨hk1, hk2⟩ := hk
    cases ho : ops[i]? with
    | none => rw [ho] at hk1; cases hk1
    | some o =>
      rw [ho] at hk1
      simp only [Bool.and_eq_true] at hk1
      obtain ⟨⟨ha, hin⟩, hT⟩ := hk1
      simp only [kOf, nthA_eq, ho] at he
      rcases evKs_tr o _ _ _ s he with he | ⟨hns, hcl, v, hv, he⟩ | ⟨hns, he⟩
      case inr.inr =>
        cases h2 : evOp x cf o s with
        | none => rw [h2] at he; cases he
        | some p =>
          obtain ⟨e1, s2⟩ := p
          rw [h2] at he
          simp only [trKC] at he
          cases e1 with
          | normal =>
            simp only [trEC] at he
            cases hag : evAgainsC x pf s2 (chg x o s) (dep ops re) with
            | false => rw [hag] at he; cases he
            | true =>
            rw [hag] at he
            simp only [againK] at he
            refine ⟨o, ho, ?_⟩
            obtain ⟨v, hv⟩ := evOp_t h2
            have hKd : Kd x ops re s2.st.t := by
              rw [hv]
              refine Kd.put (fun j hj => ?_) ha v
              obtain ⟨b, e', g1, g2, g0, _, g4⟩ := H j (allIn_spec hin j hj)
              exact ⟨b, e', g1, g2, g0, g4⟩
            have hKn : Kn x ops re s2.st := fun j hj => by
              obtain ⟨b, e', g1, g2, g0, g3⟩ := hKd j hj
              cases hb : indep b with
              | true => exact ⟨b, e', g1, g2, g0, g3 hb _, fun _ => g3 hb⟩
              | false =>
                refine ⟨b, e', g1, g2, g0, ?_, fun h => by rw [hb] at h; cases h⟩
                rcases evAgainsC_mem hag b (dep_mem g1 hb hj) with hs | hs
                · cases hc : chg x o s with
                  | none => rw [hc] at hs; cases hs
                  | some c =>
                    rw [hc] at hs
                    obtain ⟨b2, e2, k1, k2, k0, k3, _⟩ := H j (allIn_spec hin j hj)
                    rw [g1] at k1; cases k1
                    rw [g2] at k2; cases k2
                    have hlk : (∀ n ∈ b.looks, s2.st.t n = s.st.t n) ∧ s2.st.t e' = s.st.t e' := by
                      rw [hv]
                      cases hd : o.dst with
                      | none => exact ⟨fun _ _ => rfl, rfl⟩
                      | some d =>
                        rw [hd] at ha
                        obtain ⟨q1, q2⟩ := apart_spec ha j hj b g1
                        exact ⟨fun n hn => put_ne fun hh => q1 (by cases hh; exact hn), put_ne fun hh => q2 (by rw [g2, ← hh])⟩
                    have hv2 := skipB_val hs (t := s.st.t) hlk.1 (evOp_chg hc h2) k3
                    rw [hlk.2]
                    exact Val.congr (fun n hn => (hlk.1 n hn).symm) hv2
                · exact evAgain_val hpf g2 g0 hs
            rw [hns]
            refine evOp_sound hcf h2 (fun _ => ⟨fun j hj => ?_, evKs_sound hcf hpf r re s2 s' e hk2 he hKn Q hq⟩) (fun v hv => by cases hv)
            obtain ⟨b, e', g1, g2, _, g3, _⟩ := hKn j hj
            exact ⟨b, e', g1, g2, g3⟩
          | _ => cases he
      case inr.inl =>
        cases h1 : s.put o.dst v s.h with
        | none => rw [h1] at he; cases he
        | some s1 =>
          rw [h1] at he
          simp only [stP] at he
          have hs1 := L.put_st h1
          have hr : (o.i.reads || isCall o.i) = true := by rw [hcl, Bool.or_true]
          have hKr : Kn x ops re s.st := fun j hj => H j (allIn_spec hin j hj)
          have hKn : Kn x ops re s1.st := by
            rw [hs1]
            cases hd : o.dst with
            | none => exact hKr
            | some d =>
              rw [hd] at ha
              exact hKr.put ha v
          refine ⟨o, ho, ?_⟩
          rw [hns]
          refine vop_of_val (s := s.st) (v := v) (evOpP_val hpf hr hv) ?_
          have h2 := evKs_sound hcf hpf r re s1 s' e hk2 he hKn Q hq
          rw [hs1] at h2 hKn
          refine ⟨fun j hj => ?_, h2⟩
          obtain ⟨b, e', g1, g2, _, g3, _⟩ := hKn j hj
          exact ⟨b, e', g1, g2, g3⟩
      cases h1 : tellE ops (nd ops L0 i) s with
      | none => rw [h1] at he; cases he
      | some s1 =>
        rw [h1] at he
        simp only [tellK] at he
        cases h2 : evOp x cf o s1 with
        | none => rw [h2] at he; cases he
        | some p =>
          obtain ⟨e1, s2⟩ := p
          rw [h2] at he
          simp only [trK] at he
          cases e1 with
          | normal =>
            simp only [trE] at he
            cases hag : evAgains x pf s2 (dep ops re) with
            | false => rw [hag] at he; cases he
            | true =>
            rw [hag] at he
            simp only [againK] at he
            refine ⟨o, ho, ?_⟩
            have hKd : Kd x ops re s2.st.t := by
              obtain ⟨v, hv⟩ := evOp_t h2
              rw [hv, tellE_st h1]
              refine Kd.put (Kd.tell (fun j hj => ?_) hT) ha v
              obtain ⟨b, e', g1, g2, g0, _, g4⟩ := H j (allIn_spec hin j hj)
              exact ⟨b, e', g1, g2, g0, g4⟩
            have hKn : Kn x ops re s2.st := fun j hj => by
              obtain ⟨b, e', g1, g2, g0, g3⟩ := hKd j hj
              cases hb : indep b with
              | true => exact ⟨b, e', g1, g2, g0, g3 hb _, fun _ => g3 hb⟩
              | false => exact ⟨b, e', g1, g2, g0, evAgain_val hpf g2 g0 (evAgains_mem hag b (dep_mem g1 hb hj)), fun h => by rw [hb] at h; cases h⟩
            rw [← tellE_st h1]
            refine evOp_sound hcf h2 (fun _ => ⟨fun j hj => ?_, evKs_sound hcf hpf r re s2 s' e hk2 he hKn Q hq⟩) (fun v hv => by cases hv)
            obtain ⟨b, e', g1, g2, _, g3, _⟩ := hKn j hj
            exact ⟨b, e', g1, g2, g3⟩
          | _ => cases he

theorem evC_sound (hcf : Sd x cf) (hpf : Sp x pf) (n : Nat) : ∀ (c : C) (s s' : L) (e : Ex), stC c = true → evC c x cf pf n s = some (e, s') → ∀ Q : Ex → St → Prop, Q e s'.st → vc x c Q s.st := by
  intro c
  induction c with
  | skip =>
    intro s s' e hk he Q hq
    have he : some (Ex.normal, s) = some (e, s') := he
    simp only [Option.some.injEq, Prod.mk.injEq] at he; obtain ⟨rfl, rfl⟩ := he; exact hq
  | reg ops => exact fun s s' e hk he Q hq => evOps_sound hcf ops s s' e he Q hq
  | dreg ops d =>
    intro s s' e hk he Q hq
    have he : dregK x cf pf ops s d = some (e, s') := he
    cases d with
    | lin L0 l => exact evKs_sound hcf hpf l [] s s' e hk he (fun j hj => by cases hj) Q hq
    | done => simp only [dregK, Option.some.injEq, Prod.mk.injEq] at he; obtain ⟨rfl, rfl⟩ := he; exact hq
    | _ => simp [stC] at hk
  | seq a b iha ihb =>
    intro s s' e hk he Q hq
    have he : seqK (evC b x cf pf n) (evC a x cf pf n s) = some (e, s') := he
    simp only [stC, Bool.and_eq_true] at hk
    simp only [vc]
    rcases seqK_some he with ⟨s1, h1, h2⟩ | ⟨hne, h1⟩
    · exact iha s s1 .normal hk.1 h1 _ (ihb s1 s' e hk.2 h2 Q hq)
    · refine iha s s' e hk.1 h1 _ ?_
      cases e <;> first | exact hq | exact absurd rfl hne
  | cond o a b iha ihb =>
    intro s s' e hk he Q hq
    have he : condK (evC a x cf pf n s) (evC b x cf pf n s) (evO o x (getT s.t)) = some (e, s') := he
    simp only [stC, Bool.and_eq_true] at hk
    simp only [vc]
    have e1 : o.ev x s.st.t = evO o x (getT s.t) := (evO_eq o x (getT s.t)).symm
    rw [e1]
    generalize evO o x (getT s.t) = v at he
    cases v with
    | bool c =>
      cases c with
      | true => exact iha s s' e hk.1 he Q hq
      | false => exact ihb s s' e hk.2 he Q hq
    | _ => cases he
  | block id c ih =>
    intro s s' e hk he Q hq
    have he : blockK id (evC c x cf pf n s) = some (e, s') := he
    simp only [stC] at hk
    simp only [vc]
    cases h1 : evC c x cf pf n s with
    | none => rw [h1] at he; cases he
    | some p =>
      obtain ⟨e1, s1⟩ := p
      rw [h1] at he
      refine ih s s1 e1 hk h1 _ ?_
      cases e1 with
      | exit i =>
        simp only [blockK, blockE] at he
        simp only
        cases hb : Nat.beq i id with
        | true =>
          rw [hb] at he
          simp only [Option.some.injEq, Prod.mk.injEq] at he
          obtain ⟨rfl, rfl⟩ := he
          rw [if_pos (Nat.eq_of_beq_eq_true hb)]
          exact hq
        | false =>
          rw [hb] at he
          simp only [Option.some.injEq, Prod.mk.injEq] at he
          obtain ⟨rfl, rfl⟩ := he
          rw [if_neg (fun h => by subst h; rw [show Nat.beq i i = true from Nat.beq_refl i] at hb; cases hb)]
          exact hq
      | _ =>
        simp only [blockK, blockE, Option.some.injEq, Prod.mk.injEq] at he
        obtain ⟨rfl, rfl⟩ := he
        exact hq
  | loop c ih =>
    intro s s' e hk he Q hq
    have he : loopK (evC c x cf pf n) n s = some (e, s') := he
    simp only [stC] at hk
    refine ⟨fun m σ => ∃ s1 : L, s1.st = σ ∧ loopK (evC c x cf pf n) m s1 = some (e, s'), ⟨n, s, rfl, he⟩, ?_⟩
    rintro m σ ⟨s1, rfl, h1⟩
    cases m with
    | zero => cases h1
    | succ k =>
      simp only [loopK] at h1
      rcases seqK_some h1 with ⟨s2, h2, h3⟩ | ⟨hne, h2⟩
      · exact ih s1 s2 .normal hk h2 _ ⟨k, by omega, s2, rfl, h3⟩
      · refine ih s1 s' e hk h2 _ ?_
        cases e <;> first | exact hq | exact absurd rfl hne
  | exit id =>
    intro s s' e hk he Q hq
    have he : some (Ex.exit id, s) = some (e, s') := he
    simp only [Option.some.injEq, Prod.mk.injEq] at he; obtain ⟨rfl, rfl⟩ := he; exact hq
  | ret =>
    intro s s' e hk he Q hq
    have he : some (Ex.ret, s) = some (e, s') := he
    simp only [Option.some.injEq, Prod.mk.injEq] at he; obtain ⟨rfl, rfl⟩ := he; exact hq
  | no => intro s s' e hk he; cases he
end

/-! ### Deferred functions -/
def evOpS (x : X) (cf : CF) (o : A) (s : L) (m : MS) : Option (Ex × L × MS) :=
  match o.i with
  | .recov => match wanted (getT s.t) o.g with
    | true => match m with
      | .pend v => match s.put o.dst v s.h with
        | some s' => some (.normal, s', .recd v)
        | none => none
      | m => match s.put o.dst .nifc s.h with
        | some s' => some (.normal, s', m)
        | none => none
    | false => match s.put o.dst udf s.h with
      | some s' => some (.normal, s', m)
      | none => none
  | _ => match evOp x cf o s with
    | some (e, s') => some (e, s', m)
    | none => none
def evOpsS (x : X) (cf : CF) : List A → L → MS → Option (Ex × L × MS)
  | [], s, m => some (.normal, s, m)
  | o :: r, s, m => match evOpS x cf o s m with
    | some (.normal, s', m') => evOpsS x cf r s' m'
    | r => r
def evS (x : X) (cf : CF) (pf : PF) (n : Nat) : C → L → MS → Option (Ex × L × MS)
  | .reg ops, s, m => evOpsS x cf ops s m
  | .seq a b, s, m => match evS x cf pf n a s m with
    | some (.normal, s', m') => evS x cf pf n b s' m'
    | r => r
  | .cond o a b, s, m => match o.ev x (getT s.t) with
    | .bool true => evS x cf pf n a s m
    | .bool false => evS x cf pf n b s m
    | _ => none
  | c, s, m => match evC c x cf pf n s with
    | some (e, s') => some (e, s', m)
    | none => none

section
variable {x : X} {cf : CF} {pf : PF}
theorem evOpS_sound (hcf : Sd x cf) {o : A} {s s' : L} {m m' : MS} {e : Ex} (he : evOpS x cf o s m = some (e, s', m')) {Q : Ex → St → MS → Prop} {K : St → MS → Prop} (hK : e = .normal → K s'.st m') (hQ : ∀ v, e = .pan v → Q (.pan v) s'.st m') : vopS x o Q K s.st m := by
  unfold evOpS at he
  unfold vopS
  split at he
  · rename_i hr
    simp only [hr]
    split at he
    · rename_i hw
      rw [if_pos (show wanted s.st.t o.g = true from hw)]
      split at he
      · rename_i v
        split at he
        · rename_i s1 hp; cases he; have := hK rfl; rw [L.put_st hp] at this; exact this
        · cases he
      · rename_i hm
        split at he
        · rename_i s1 hp
          cases he
          have := hK rfl
          rw [L.put_st hp] at this
          cases m <;> first | exact this | exact absurd rfl (hm _)
        · cases he
    · rename_i hw
      rw [if_neg (by rw [show wanted s.st.t o.g = false from hw]; simp)]
      split at he
      · rename_i s1 hp; cases he; have := hK rfl; rw [L.put_st hp] at this; exact this
      · cases he
  · rename_i hr
    split at he
    · rename_i e1 s1 h1
      cases he
      have h2 := evOp_sound hcf h1 (Q := fun e s => Q e s m) (K := fun s => K s m) hK hQ
      split
      · rename_i hr2; exact absurd hr2 hr
      · exact h2
    · cases he

theorem evOpS_ex {o : A} {s s' : L} {m m' : MS} {e : Ex} (he : evOpS x cf o s m = some (e, s', m')) : e = .normal ∨ ∃ v, e = .pan v := by
  unfold evOpS at he
  split at he
  · repeat' split at he
    all_goals first
      | (cases he; done)
      | (cases he; exact .inl rfl)
  · split at he
    · rename_i h1; cases he; exact evOp_ex h1
    · cases he

theorem evOpsS_sound (hcf : Sd x cf) : ∀ (ops : List A) (s s' : L) (m m' : MS) (e : Ex), evOpsS x cf ops s m = some (e, s', m') → ∀ Q : Ex → St → MS → Prop, Q e s'.st m' → vopsS x Q ops s.st m
  | [], s, s', m, m', e, he, Q, hq => by simp only [evOpsS, Option.some.injEq, Prod.mk.injEq] at he; obtain ⟨rfl, rfl, rfl⟩ := he; exact hq
  | o :: r, s, s', m, m', e, he, Q, hq => by
    simp only [evOpsS] at he
    split at he
    · rename_i s1 m1 h1
      exact evOpS_sound hcf h1 (fun _ => evOpsS_sound hcf r s1 s' m1 m' e he Q hq) (fun v hv => by cases hv)
    · rename_i h1
      rcases evOpS_ex he with rfl | ⟨v, rfl⟩
      · exact absurd he (h1 s' m')
      · exact evOpS_sound hcf he (fun hv => by cases hv) (fun v' hv => by cases hv; exact hq)

theorem evS_sound (hcf : Sd x cf) (hpf : Sp x pf) (n : Nat) : ∀ (c : C) (s s' : L) (m m' : MS) (e : Ex), stC c = true → evS x cf pf n c s m = some (e, s', m') → ∀ Q : Ex → St → MS → Prop, Q e s'.st m' → vcS x c Q s.st m := by
  intro c
  induction c with
  | reg ops => exact fun s s' m m' e _ he Q hq => evOpsS_sound hcf ops s s' m m' e he Q hq
  | seq a b iha ihb =>
    intro s s' m m' e hk he Q hq
    simp only [stC, Bool.and_eq_true] at hk
    simp only [evS] at he
    simp only [vcS]
    split at he
    · rename_i s1 m1 h1
      exact iha s s1 m m1 .normal hk.1 h1 _ (ihb s1 s' m1 m' e hk.2 he Q hq)
    · rename_i h1
      refine iha s s' m m' e hk.1 he _ ?_
      cases e <;> first | exact hq | exact absurd he (h1 s' m')
  | cond o a b iha ihb =>
    intro s s' m m' e hk he Q hq
    simp only [stC, Bool.and_eq_true] at hk
    simp only [evS] at he
    simp only [vcS]
    have e1 : o.ev x s.st.t = o.ev x (getT s.t) := rfl
    rw [e1]
    split at he
    · rename_i hb; rw [hb]; exact iha s s' m m' e hk.1 he Q hq
    · rename_i hb; rw [hb]; exact ihb s s' m m' e hk.2 he Q hq
    · cases he
  | _ =>
    intro s s' m m' e hk he Q hq
    simp only [evS] at he
    simp only [vcS]
    split at he
    · rename_i e1 s1 h1
      cases he
      exact evC_sound hcf hpf n _ s s' e hk h1 _ hq
    · cases he
end

/-! ### Calls -/
/-- The functions' code; those that recover; what is known of calls on plain data. -/
structure Tb where
  f : FuncId → Option Fun
  s : FuncId → Option Fun
  p : FuncId → List V → Option V
  q : FuncId → List V → HT → Option (Res × HT)

structure TbOk (x : X) (T : Tb) : Prop where
  f : ∀ g F, T.f g = some F → ckF x.P g F = true
  s : ∀ g F, T.s g = some F → ckFS x.P g F = true
  p : ∀ g args v, T.p g args = some v → PCalls x g args fun r => r = .ret v
  q : ∀ g args h r h', T.q g args h = some (r, h') → ACalls x g args h.l fun a b => a = r ∧ b = h'.l
  kf : ∀ g F, T.f g = some F → stC F.c = true
  ks : ∀ g F, T.s g = some F → stC F.c = true

def blank : Nat → Nat → Nat → TT
  | 0, lo, _ => .leaf lo udf
  | f + 1, lo, c => match Nat.ble c 1 with
    | true => .leaf lo udf
    | false => .node (Nat.add lo (Nat.div c 2)) (blank f lo (Nat.div c 2)) (blank f (Nat.add lo (Nat.div c 2)) (Nat.sub c (Nat.div c 2)))

theorem blank_get : ∀ (f lo c n : Nat), getT (blank f lo c) n = udf
  | 0, lo, c, n => by rw [blank, getT_leaf]; split <;> rfl
  | f + 1, lo, c, n => by
    rw [blank]
    split
    · rw [getT_leaf]; split <;> rfl
    · rw [getT_node]; split <;> exact blank_get f _ _ n

def argsT : TT → Nat → List V → Option TT
  | t, _, [] => some t
  | t, n, v :: r => match setT t n v with
    | some t' => argsT t' (Nat.succ n) r
    | none => none

theorem argsT_spec : ∀ (l : List V) (t t' : TT) (k : Nat), argsT t k l = some t' → ∀ n, getT t' n = if k ≤ n then (l[n - k]?).getD (getT t n) else getT t n
  | [], t, t', k, h, n => by simp only [argsT, Option.some.injEq] at h; subst h; simp
  | v :: r, t, t', k, h, n => by
    simp only [argsT] at h
    split at h
    · rename_i t1 h1
      have h2 := argsT_spec r t1 t' (k + 1) h n
      have h3 := setT_spec t k v t1 h1 n
      rw [h2, h3]
      by_cases hk : k + 1 ≤ n
      · rw [if_pos hk, if_pos (show k ≤ n by omega), if_neg (show ¬ n = k by omega)]
        rw [show n - k = (n - (k + 1)) + 1 by omega, List.getElem?_cons_succ]
      · rw [if_neg hk]
        by_cases he : n = k
        · subst he; simp
        · rw [if_neg he, if_neg (show ¬ k ≤ n by omega)]
    · cases h

def startT (n : Nat) (args : List V) : Option TT := argsT (blank 20 0 n) 0 args

theorem getT_start {n : Nat} {args : List V} {t : TT} (h : startT n args = some t) : getT t = start args := by
  funext k
  rw [argsT_spec _ _ _ _ h k, blank_get]
  unfold start
  simp

/-- A function's result. -/
def getAllK (t : Nat → V) (g : Gt) : List RV → Option (List V)
  | [] => some []
  | .t n :: rs => match getAllK t g rs with
    | some vs => some (t n :: vs)
    | none => none
  | .c n k ag :: rs => match (rdE g (t n) k).bind (asV ag), getAllK t g rs with
    | some v, some vs => some (v :: vs)
    | _, _ => none
theorem getAllK_eq (t : Nat → V) (h : Hp) : ∀ rs, getAll t h rs = getAllK t (hget h) rs
  | [] => rfl
  | .t n :: rs => by simp only [getAll, getAllK, RV.get, getAllK_eq t h rs]; cases getAllK t (hget h) rs <;> rfl
  | .c n k ag :: rs => by
    simp only [getAll, getAllK, RV.get, getAllK_eq t h rs, rdE_eq]
    cases (rdE (hget h) (t n) k).bind (asV ag) <;> cases getAllK t (hget h) rs <;> rfl
def resK (rs : List RV) (t : Nat → V) (h : HT) : Option V := match getAllK t h.g rs with
  | some [v] => some v
  | some vs => some (.tup vs)
  | none => none
theorem resK_eq (rs : List RV) (t : Nat → V) (h : HT) : resV rs t h.l = resK rs t h := by
  simp only [resV, resK, getAllK_eq, HT.g_eq]
  generalize getAllK t h.g rs = o
  rcases o with _ | _ | ⟨v, _ | _⟩ <;> rfl

abbrev DF := FuncId → List V → HT → Option V → Option (Bool × HT)

def evLv (df : DF) (rs : List RV) (t : Nat → V) : List (FuncId × List V) → Option V → HT → Option (Res × HT)
  | [], none, h => match resK rs t h with
    | some v => some (.ret v, h)
    | none => none
  | [], some v, h => some (.pan v, h)
  | (f, args) :: ds, p, h => match df f args h p with
    | some (rc, h') => evLv df rs t ds (match rc with | true => none | false => p) h'
    | none => none

/-- A deferred call, by its code. -/
def evDf (x : X) (T : Tb) (cf : CF) (pf : PF) (n : Nat) : DF := fun f args h p => match T.s f with
  | some F => match args.length == F.np with
    | true => match startT F.n args with
      | none => none
      | some tt => match evS x cf pf n F.c { t := tt, h, d := [] } (msOf p) with
      | some (.normal, s, m) => match s.d, resK F.rs (getT s.t) s.h with
        | [], some _ => some (m.was, s.h)
        | _, _ => none
      | some (.ret, s, m) => match s.d, resK F.rs (getT s.t) s.h with
        | [], some _ => some (m.was, s.h)
        | _, _ => none
      | _ => none
    | false => none
  | none => none

/-- A call, by its code. -/
def evB (x : X) (T : Tb) (cf : CF) (pf : PF) (n : Nat) : CF := fun f args h => match T.f f with
  | some F => match args.length == F.np with
    | true => match startT F.n args with
      | none => none
      | some tt => match evC F.c x cf pf n { t := tt, h, d := [] } with
      | some (.normal, s) => evLv (evDf x T cf pf n) F.rs (getT s.t) s.d none s.h
      | some (.ret, s) => evLv (evDf x T cf pf n) F.rs (getT s.t) s.d none s.h
      | some (.pan v, s) => evLv (evDf x T cf pf n) F.rs (getT s.t) s.d (some v) s.h
      | _ => none
    | false => none
  | none => none

/-- A call on plain data: by what is known of it, or over the empty heap. -/
def plain (T : Tb) (b : CF) (f : FuncId) (args : List V) : Option (Res × HT) := match T.p f args with
  | some v => some (.ret v, HT.nil)
  | none => b f args HT.nil

mutual
def evP (x : X) (T : Tb) : Nat → PF
  | 0, _, _ => none
  | n + 1, f, args => match lowBs args with
    | true => match plain T (evB x T (evF x T n) (evP x T n) n) f args with
      | some (r, _) => match lowR r with
        | true => some r
        | false => none
      | none => none
    | false => none
/-- A call. -/
def evF (x : X) (T : Tb) : Nat → CF
  | 0, _, _, _ => none
  | n + 1, f, args, h => match T.q f args h with
    | some r => some r
    | none => match lowBs args with
      | true => match plain T (evB x T (evF x T n) (evP x T n) n) f args with
        | some (r, h0) => match lowR r with
          | true => some (r, h)
          | false => match h.cat (shH h.n h0.l) with
            | some h' => some (shR h.n r, h')
            | none => none
        | none => none
      | false => evB x T (evF x T n) (evP x T n) n f args h
end

section
variable {x : X} {T : Tb} {cf : CF} {pf : PF}

theorem evDf_sound (hx : XOk x) (hT : TbOk x T) (hcf : Sd x cf) (hpf : Sp x pf) {n : Nat} {f : FuncId} {args : List V} {h h' : HT} {p : Option V} {rc : Bool} (he : evDf x T cf pf n f args h p = some (rc, h')) : ACallsD x f args h.l p fun a b => a = rc ∧ b = h'.l := by
  unfold evDf at he
  split at he
  · rename_i F hF
    split at he
    · rename_i hn
      split at he
      · cases he
      rename_i tt htt
      have hst : ({ t := start args, h := h.l, d := [] } : St) = (L.st { t := tt, h, d := [] }) := by
        simp only [L.st, getT_start htt]
      split at he
      · rename_i s m hs
        split at he
        · rename_i v hd hr
          cases he
          refine acallsD_of hx (hT.s f F hF) (by simpa using hn) ?_
          rw [hst]
          exact evS_sound hcf hpf n F.c _ s _ m .normal (hT.ks f F hF) hs _ ⟨hd, ⟨v, (resK_eq _ _ _).trans hr⟩, rfl, rfl⟩
        · cases he
      · rename_i s m hs
        split at he
        · rename_i v hd hr
          cases he
          refine acallsD_of hx (hT.s f F hF) (by simpa using hn) ?_
          rw [hst]
          exact evS_sound hcf hpf n F.c _ s _ m .ret (hT.ks f F hF) hs _ ⟨hd, ⟨v, (resK_eq _ _ _).trans hr⟩, rfl, rfl⟩
        · cases he
      · cases he
    · cases he
  · cases he

theorem evLv_sound {F : Fun} {df : DF} (hdf : ∀ f args h p rc h', df f args h p = some (rc, h') → ACallsD x f args h.l p fun a b => a = rc ∧ b = h'.l) {t : Nat → V} : ∀ (ds : List (FuncId × List V)) (p : Option V) (h : HT) (r : Res) (h' : HT),
    evLv df F.rs t ds p h = some (r, h') → leave x F t (fun a b => a = r ∧ b = h'.l) ds p h.l
  | [], none, h, r, h', he => by
    simp only [evLv] at he
    split at he
    · rename_i v hv; cases he; exact ⟨v, (resK_eq _ _ _).trans hv, rfl, rfl⟩
    · cases he
  | [], some v, h, r, h', he => by
    simp only [evLv, Option.some.injEq, Prod.mk.injEq] at he
    obtain ⟨rfl, rfl⟩ := he
    exact ⟨rfl, rfl⟩
  | (f, args) :: ds, p, h, r, h', he => by
    simp only [evLv] at he
    split at he
    · rename_i rc h1 hd
      have h2 := hdf _ _ _ _ _ _ hd
      refine ⟨h2.1, fun w0 E w vs pv a1 a2 a3 a4 a5 => (h2.2 w0 E w vs pv a1 a2 a3 a4 a5).mono ?_⟩
      rintro e u w' ⟨E', g, rc', b1, b2, b3, b4, rfl, rfl⟩
      refine ⟨E', h1.l, rc', b1, b2, b3, b4, ?_⟩
      have := evLv_sound hdf ds _ h1 r h' he
      cases rc' <;> exact this
    · cases he

theorem evB_sound (hx : XOk x) (hT : TbOk x T) (hcf : Sd x cf) (hpf : Sp x pf) (n : Nat) : Sd x (evB x T cf pf n) := by
  intro f args h r h' he
  unfold evB at he
  split at he
  · rename_i F hF
    split at he
    · rename_i hn
      split at he
      · cases he
      rename_i tt htt
      have hst : ({ t := start args, h := h.l, d := [] } : St) = (L.st { t := tt, h, d := [] }) := by
        simp only [L.st, getT_start htt]
      have hlv := fun t => evLv_sound (x := x) (F := F) (df := evDf x T cf pf n) (fun f args h p rc h' hd => evDf_sound hx hT hcf hpf hd) (t := t)
      refine acalls_of_defers hx (hT.f f F hF) (by simpa using hn) ?_
      rw [hst]
      split at he
      · rename_i s hs
        exact evC_sound hcf hpf n F.c _ s .normal (hT.kf f F hF) hs _ (hlv _ _ _ _ _ _ he)
      · rename_i s hs
        exact evC_sound hcf hpf n F.c _ s .ret (hT.kf f F hF) hs _ (hlv _ _ _ _ _ _ he)
      · rename_i v s hs
        exact evC_sound hcf hpf n F.c _ s (.pan v) (hT.kf f F hF) hs _ (hlv _ _ _ _ _ _ he)
      · cases he
    · cases he
  · cases he

theorem plain_sound (hT : TbOk x T) {b : CF} (hb : Sd x b) {f : FuncId} {args : List V} {r : Res} {h0 : HT} (he : plain T b f args = some (r, h0)) : ACalls x f args [] fun a b => a = r ∧ b = h0.l := by
  unfold plain at he
  split at he
  · rename_i v hp
    cases he
    exact hT.p f args v hp
  · exact hb f args HT.nil r h0 he

theorem evFP_sound (hx : XOk x) (hl : XLow x) (hT : TbOk x T) : ∀ n, Sd x (evF x T n) ∧ Sp x (evP x T n)
  | 0 => ⟨fun f args h r h' he => by simp [evF] at he, fun f args r he => by simp [evP] at he⟩
  | n + 1 => by
    obtain ⟨ih1, ih2⟩ := evFP_sound hx hl hT n
    have hb := evB_sound hx hT ih1 ih2 n
    have low : ∀ f args r h0, lowBs args = true → plain T (evB x T (evF x T n) (evP x T n) n) f args = some (r, h0) → lowR r = true → ∀ h, ACalls x f args h fun a b => a = r ∧ b = h := fun f args r h0 hlow hp hr h => by
      have h2 := plain_sound hT hb hp
      have h3 : PCalls x f args fun a => a = r := PCalls.of (h2.mono fun a b hab => hab.1) fun a ha => by subst ha; exact lowR_spec hr
      exact PCalls.at hl h3 (lowBs_spec args hlow) h
    refine ⟨fun f args h r h' he => ?_, fun f args r he => ?_⟩
    · simp only [evF] at he
      split at he
      · rename_i r1 hq
        cases he
        exact hT.q f args h _ _ hq
      split at he
      · rename_i hlow
        split at he
        · rename_i r1 h1 hp
          split at he
          · rename_i hr
            cases he
            exact low f args r h1 hlow hp hr h.l
          · split at he
            · rename_i h2 hc
              cases he
              refine ((plain_sound hT hb hp).frame hl (lowBs_spec args hlow) h.l).mono ?_
              rintro a b ⟨r0, h0, ⟨rfl, rfl⟩, rfl, rfl⟩
              rw [HT.cat_l hc, HT.len]
              exact ⟨rfl, rfl⟩
            · cases he
        · cases he
      · exact hb f args h r h' he
    · simp only [evP] at he
      split at he
      · rename_i hlow
        split at he
        · rename_i r1 h1 hp
          split at he
          · rename_i hr
            cases he
            exact low f args r h1 hlow hp hr
          · cases he
        · cases he
      · cases he

/-- What code comes to over plain data is what the call comes to. -/
theorem evF_pure (hx : XOk x) (hl : XLow x) (hT : TbOk x T) {n : Nat} {f : FuncId} {args : List V} {r : Res} {h : HT} (he : evF x T n f args HT.nil = some (r, h)) (h0 : h.n = 0) : PCalls x f args fun a => a = r :=
  ((evFP_sound hx hl hT n).1 f args HT.nil r h he).mono fun a b hab => ⟨hab.1, by rw [hab.2]; unfold HT.l; rw [h0]; rfl⟩
end
end
end Go.Vs.K
namespace Go.Vs
open Go.RowKit

/-- Of some blocks nothing is told any more. -/
def Fg (h h' : Hp) : Prop := h'.length = h.length ∧ ∀ (β : Nat) (y : Blk), h'[β]? = some (some y) → h[β]? = some (some y)

open Classical in
noncomputable def Env.keep (E : Env) (h' : Hp) : Env := { E with mu := fun β => if ∃ y, h'[β]? = some (some y) then E.mu β else none }

theorem Le.keep (E : Env) (h' : Hp) : Le E (E.keep h') :=
  ⟨Nat.le_refl _, fun β l _ hm => (by simp only [Env.keep] at hm; split at hm; exact hm; cases hm), fun _ _ _ hf => hf, rfl, rfl⟩

theorem SR.forget {w0 w : World} {E : Env} {h h' : Hp} (H : SR w0 E h w) (hf : Fg h h') : SR w0 (E.keep h') h' w := by
  have hmu : ∀ β l, (E.keep h').mu β = some l → E.mu β = some l ∧ ∃ y, h'[β]? = some (some y) := fun β l hm => by
    simp only [Env.keep] at hm
    split at hm
    · rename_i hy; exact ⟨hm, hy⟩
    · cases hm
  refine ⟨by rw [hf.1, H.len]; rfl, H.below, H.frz, fun γ x hx => ?_, fun γ l hm => (hmu γ l hm).2, fun γ γ' l l' b o h1 h2 o1 o2 => H.dis γ γ' l l' b o (hmu _ _ h1).1 (hmu _ _ h2).1 o1 o2, fun γ l b o hm ho => H.dfr γ l b o (hmu _ _ hm).1 ho,
    fun b o ho => ⟨(H.old b o ho).1, (H.old b o ho).2.1, fun γ l hm => (H.old b o ho).2.2 γ l (hmu _ _ hm).1⟩, fun b o ho => ⟨(H.hid b o ho).1, (H.hid b o ho).2.1, fun γ l hm => (H.hid b o ho).2.2 γ l (hmu _ _ hm).1⟩⟩
  obtain ⟨l, hl, hr⟩ := H.blk γ x (hf.2 γ x hx)
  refine ⟨l, ?_, hr.mono (Le.keep E h') (Nat.le_refl _) rfl⟩
  simp only [Env.keep]
  rw [if_pos ⟨x, hx⟩]
  exact hl

theorem RR.mono {E E' : Env} (hE : Le E E') {r : Res} {e : Ending} (h : RR E r e) : RR E' r e := by
  cases r with
  | ret v => cases e <;> first | exact h.elim | exact VR.mono hE h
  | pan v =>
    cases e with
    | panicked l => obtain ⟨u, hv, hl⟩ := h; exact ⟨u, hv.mono hE, hl⟩
    | returned u => exact h.elim
    | outgrown => exact h.elim

/-- Less has to be told ahead of one. -/
theorem ACalls.fg_pre {x : X} {f : FuncId} {args : List V} {h h2 : Hp} {R : Res → Hp → Prop} (H : ACalls x f args h2 R) (hf : Fg h h2) : ACalls x f args h R :=
  ⟨H.1, fun w0 E w vs hs hg hv => (H.2 w0 (E.keep h2) w vs (hs.forget hf) (hg.mono (Le.keep E h2)) ⟨hv.1, fun j y v hy hv' => (hv.2 j y v hy hv').mono (Le.keep E h2)⟩).mono fun _ _ ⟨E', h1, r, a1, a2, a3, a4⟩ =>
    ⟨E', h1, r, (Le.keep E h2).trans a1, a2, a3, a4⟩⟩

namespace K
noncomputable section
mutual
/-- The same, reckoned fast. -/
def sameV : V → V → Bool
  | .bool a, .bool b => match a with
    | true => b
    | false => !b
  | .int k a, .int j b => decide (k = j) && decide (a = b)
  | .str a, .str b => strEq a b
  | .nptr, .nptr => true
  | .ptr a o, .ptr b p => Nat.beq a b && Nat.beq o p
  | .fp cs o, .fp ds p => sameVs cs ds && Nat.beq o p
  | .nsl, .nsl => true
  | .sl b off len cap ex es ag, .sl b' off' len' cap' ex' es' ag' => Nat.beq b b' && Nat.beq off off' && Nat.beq len len' && Nat.beq cap cap' && ex == ex' && Nat.beq es es' && ag == ag'
  | .lst ex xs, .lst ex' ys => ex == ex' && sameVs xs ys
  | .nmap, .nmap => true
  | .map a, .map b => Nat.beq a b
  | .fn (.func f) a b, .fn (.func g) c d => Nat.beq f g && sameVs a c && sameVs b d
  | .nfn, .nfn => true
  | .ifc t v, .ifc u w => Nat.beq t u && sameV v w
  | .nifc, .nifc => true
  | .agg cs, .agg ds => sameVs cs ds
  | .tup cs, .tup ds => sameVs cs ds
  | _, _ => false
def sameVs : List V → List V → Bool
  | [], [] => true
  | x :: r, y :: q => sameV x y && sameVs r q
  | _, _ => false
end

theorem strEq_iff {a b : List UInt8} (h : strEq a b = true) : a = b := by rw [strEq_eq] at h; simpa using h
theorem nbeq {a b : Nat} (h : Nat.beq a b = true) : a = b := Nat.eq_of_beq_eq_true h

mutual
theorem sameV_eq : ∀ (a b : V), sameV a b = true → a = b
  | .bool a, b, h => by cases b <;> simp only [sameV, Bool.false_eq_true] at h; cases a <;> simp_all
  | .int k a, b, h => by cases b <;> simp_all [sameV]
  | .str a, b, h => by cases b <;> simp only [sameV, Bool.false_eq_true] at h; rw [strEq_iff h]
  | .nptr, b, h => by cases b <;> simp_all [sameV]
  | .ptr a o, b, h => by cases b <;> simp only [sameV, Bool.and_eq_true, Bool.false_eq_true] at h; rw [nbeq h.1, nbeq h.2]
  | .fp cs o, b, h => by
    cases b <;> simp only [sameV, Bool.and_eq_true, Bool.false_eq_true] at h
    rw [sameVs_eq cs _ h.1, nbeq h.2]
  | .nsl, b, h => by cases b <;> simp_all [sameV]
  | .sl .., b, h => by
    cases b <;> simp only [sameV, Bool.and_eq_true, beq_iff_eq, Bool.false_eq_true] at h
    obtain ⟨⟨⟨⟨⟨⟨h1, h2⟩, h3⟩, h4⟩, h5⟩, h6⟩, h7⟩ := h
    rw [nbeq h1, nbeq h2, nbeq h3, nbeq h4, h5, nbeq h6, h7]
  | .lst ex xs, b, h => by
    cases b <;> simp only [sameV, Bool.and_eq_true, beq_iff_eq, Bool.false_eq_true] at h
    rw [sameVs_eq xs _ h.2, h.1]
  | .nmap, b, h => by cases b <;> simp_all [sameV]
  | .map a, b, h => by cases b <;> simp only [sameV, Bool.false_eq_true] at h; rw [nbeq h]
  | .fn f a c, b, h => by
    cases b with
    | fn g a' c' =>
      cases f <;> cases g <;> simp only [sameV, Bool.and_eq_true, Bool.false_eq_true] at h
      rw [nbeq h.1.1, sameVs_eq a _ h.1.2, sameVs_eq c _ h.2]
    | _ => cases f <;> simp [sameV] at h
  | .nfn, b, h => by cases b <;> simp_all [sameV]
  | .ifc t v, b, h => by
    cases b <;> simp only [sameV, Bool.and_eq_true, Bool.false_eq_true] at h
    rw [sameV_eq v _ h.2, nbeq h.1]
  | .nifc, b, h => by cases b <;> simp_all [sameV]
  | .agg cs, b, h => by
    cases b <;> simp only [sameV, Bool.false_eq_true] at h
    rw [sameVs_eq cs _ h]
  | .tup cs, b, h => by
    cases b <;> simp only [sameV, Bool.false_eq_true] at h
    rw [sameVs_eq cs _ h]
theorem sameVs_eq : ∀ (a b : List V), sameVs a b = true → a = b
  | [], b, h => by cases b <;> simp_all [sameVs]
  | x :: r, b, h => by
    cases b with
    | nil => simp [sameVs] at h
    | cons y q =>
      simp only [sameVs, Bool.and_eq_true] at h
      rw [sameV_eq x y h.1, sameVs_eq r q h.2]
end

def sameP : List (V × V) → List (V × V) → Bool
  | [], [] => true
  | x :: r, y :: q => sameV x.1 y.1 && sameV x.2 y.2 && sameP r q
  | _, _ => false
theorem sameP_eq : ∀ (a b : List (V × V)), sameP a b = true → a = b
  | [], b, h => by cases b <;> simp_all [sameP]
  | x :: r, b, h => by
    cases b with
    | nil => simp [sameP] at h
    | cons y q =>
      simp only [sameP, Bool.and_eq_true] at h
      rw [show x = y from Prod.ext (sameV_eq _ _ h.1.1) (sameV_eq _ _ h.1.2), sameP_eq r q h.2]
def sameB : Blk → Blk → Bool
  | .cells cs ty, .cells ds ty' => decide (ty = ty') && sameVs cs ds
  | .map a, .map b => sameP a b
  | _, _ => false
theorem sameB_eq {a b : Blk} (h : sameB a b = true) : a = b := by
  cases a <;> cases b <;> simp only [sameB, Bool.and_eq_true, decide_eq_true_eq, Bool.false_eq_true] at h
  · rw [h.1, sameVs_eq _ _ h.2]
  · rw [sameP_eq _ _ h]
end
end K
end Go.Vs
namespace Go.Vs.K
open Go.Vs
noncomputable section

def fitsFrom : Nat → Hp → HT → Bool
  | _, [], _ => true
  | i, none :: l, H => fitsFrom (Nat.succ i) l H
  | i, some y :: l, H => match H.g i with
    | some z => match sameB y z with
      | true => fitsFrom (Nat.succ i) l H
      | false => false
    | none => false
/-- What is told there is so here. -/
def fits (L : Hp) (H : HT) : Bool := Nat.beq L.length H.n && fitsFrom 0 L H

theorem fitsFrom_spec : ∀ {l : Hp} {i : Nat} {H : HT}, fitsFrom i l H = true → ∀ (k : Nat) y, l[k]? = some (some y) → H.g (i + k) = some y
  | [], i, H, h, k, y, hk => by simp at hk
  | none :: l, i, H, h, k, y, hk => by
    cases k with
    | zero => simp at hk
    | succ k =>
      have := fitsFrom_spec (l := l) (i := i + 1) h k y (by simpa using hk)
      rw [show i + (k + 1) = i + 1 + k by omega]
      exact this
  | some z :: l, i, H, h, k, y, hk => by
    simp only [fitsFrom] at h
    cases hg : H.g i with
    | none => rw [hg] at h; cases h
    | some u =>
      rw [hg] at h
      simp only at h
      cases hs : sameB z u with
      | false => rw [hs] at h; cases h
      | true =>
        rw [hs] at h
        cases k with
        | zero =>
          simp only [List.getElem?_cons_zero, Option.some.injEq] at hk
          subst hk
          rw [Nat.add_zero, hg, sameB_eq hs]
        | succ k =>
          have := fitsFrom_spec (l := l) (i := i + 1) h k y (by simpa using hk)
          rw [show i + (k + 1) = i + 1 + k by omega]
          exact this

theorem fits_fg {L : Hp} {H : HT} (h : fits L H = true) : Fg H.l L := by
  simp only [fits, Bool.and_eq_true] at h
  refine ⟨by rw [nbeq h.1, HT.len], fun β y hy => ?_⟩
  have h2 := fitsFrom_spec h.2 β y hy
  rw [Nat.zero_add] at h2
  have hb : β < H.n := by rw [← nbeq h.1]; exact (List.getElem?_eq_some_iff.1 hy).1
  rw [HT.get?, if_pos hb]
  have e : H.g β = getB H.t β := by
    show Bool.rec (motive := fun _ => Option Blk) none (getB H.t β) (Nat.ble (Nat.succ β) H.n) = _
    rw [show Nat.ble (Nat.succ β) H.n = true from Nat.ble_eq.mpr hb]
  rw [← e, h2]

def sameR : Res → Res → Bool
  | .ret a, .ret b => sameV a b
  | .pan a, .pan b => sameV a b
  | _, _ => false
theorem sameR_eq {a b : Res} (h : sameR a b = true) : a = b := by
  cases a <;> cases b <;> simp only [sameR, Bool.false_eq_true] at h <;> rw [sameV_eq _ _ h]

/-- A call over a told heap. -/
structure Stp where
  f : FuncId
  args : List V
  L : Hp
  r : Res
  M : Hp

def Stp.ok (x : X) (s : Stp) : Prop := ACalls x s.f s.args s.L fun a b => a = s.r ∧ b = s.M

/-- Known calls over told heaps. -/
def stepQ : List Stp → FuncId → List V → HT → Option (Res × HT)
  | [], _, _, _ => none
  | s :: r, f, args, H => match Nat.beq s.f f && Nat.beq s.L.length H.n && sameVs s.args args && fits s.L H with
    | true => match HT.nil.cat s.M with
      | some M => some (s.r, M)
      | none => none
    | false => stepQ r f args H

theorem stepQ_ok {x : X} : ∀ {l : List Stp}, (∀ s ∈ l, s.ok x) → ∀ g args h r h', stepQ l g args h = some (r, h') → ACalls x g args h.l fun a b => a = r ∧ b = h'.l
  | [], _, g, args, h, r, h', he => by cases he
  | s :: l, hs, g, args, h, r, h', he => by
    simp only [stepQ] at he
    split at he
    · rename_i hb
      simp only [Bool.and_eq_true] at hb
      obtain ⟨⟨⟨h1, h2⟩, h3⟩, h4⟩ := hb
      cases hc : HT.nil.cat s.M with
      | none => rw [hc] at he; cases he
      | some M =>
        rw [hc] at he
        simp only [Option.some.injEq, Prod.mk.injEq] at he
        obtain ⟨rfl, rfl⟩ := he
        have hM : M.l = s.M := by rw [HT.cat_l hc, HT.nil_l, List.nil_append]
        have hok := hs s (List.mem_cons_self ..)
        unfold Stp.ok at hok
        rw [nbeq h1, sameVs_eq _ _ h3, ← hM] at hok
        exact hok.fg_pre (fits_fg h4)
    · exact stepQ_ok (fun s' h' => hs s' (List.mem_cons_of_mem _ h')) g args h r h' he

/-- .. only of these functions. -/
def stepF (fs : List FuncId) (l : List Stp) (f : FuncId) (args : List V) (H : HT) : Option (Res × HT) := match memN f fs with
  | true => stepQ l f args H
  | false => none
theorem stepF_ok {x : X} {fs : List FuncId} {l : List Stp} (hl : ∀ s ∈ l, s.ok x) : ∀ g args h r h', stepF fs l g args h = some (r, h') → ACalls x g args h.l fun a b => a = r ∧ b = h'.l := by
  intro g args h r h' he
  unfold stepF at he
  split at he
  · exact stepQ_ok hl g args h r h' he
  · cases he

/-- A call on plain data, by known calls. -/
theorem pure_ok {x : X} (hx : XOk x) (hl : XLow x) {T : Tb} (hT : TbOk x T) {n : Nat} {f : FuncId} {args : List V} {r : Res}
    (h : (match evF x T n f args HT.nil with | some p => sameR p.1 r && Nat.beq p.2.n 0 | none => false) = true) : PCalls x f args fun a => a = r := by
  cases he : evF x T n f args HT.nil with
  | none => rw [he] at h; cases h
  | some p =>
    rw [he] at h
    simp only [Bool.and_eq_true] at h
    have := evF_pure hx hl hT (r := p.1) (h := p.2) he (nbeq h.2)
    exact this.mono fun a b hab => ⟨by rw [hab.1, sameR_eq h.1], hab.2⟩
end
end Go.Vs.K
namespace Go.Vs

inductive TrF where
  | nil
  | leaf (n : Nat) (F : Fun)
  | node (n : Nat) (l r : TrF)

def TrF.get : TrF → Nat → Option Fun
  | .nil, _ => none
  | .leaf m F, n => match Nat.beq m n with
    | true => some F
    | false => none
  | .node m l r, n => match Nat.ble n m with
    | true => l.get n
    | false => r.get n

def TrF.Ok (p : Nat → Fun → Prop) : TrF → Prop
  | .nil => True
  | .leaf n F => p n F
  | .node _ l r => l.Ok p ∧ r.Ok p

theorem TrF.get_ok {p : Nat → Fun → Prop} : ∀ (t : TrF), t.Ok p → ∀ n F, t.get n = some F → p n F
  | .nil, _, n, F, h => by simp [TrF.get] at h
  | .leaf m G, ho, n, F, h => by
    simp only [TrF.get] at h
    split at h
    · rename_i hb
      cases h
      have := Nat.eq_of_beq_eq_true hb
      subst this
      exact ho
    · cases h
  | .node m l r, ho, n, F, h => by
    simp only [TrF.get] at h
    split at h
    · exact TrF.get_ok l ho.1 n F h
    · exact TrF.get_ok r ho.2 n F h
end Go.Vs
namespace Go.Vs
open Go.RowKit
set_option linter.unusedVariables false

/-- No memory in it. -/
inductive Sc : V → Prop
  | bool (b : Bool) : Sc (.bool b)
  | int (k : IntKind) (n : Int) : Sc (.int k n)
  | str (s : List UInt8) : Sc (.str s)
  | nsl : Sc .nsl
  | agg (cs : List V) : (∀ c ∈ cs, Sc c) → Sc (.agg cs)
  | tup (cs : List V) : (∀ c ∈ cs, Sc c) → Sc (.tup cs)

theorem VR.sc {E E' : Env} {x : V} {v : Value} (hv : VR E x v) (hl : Sc x) : VR E' x v := by
  induction hv with
  | bool b => exact .bool b
  | int k n => exact .int k n
  | str s => exact .str s
  | nsl => exact .nsl
  | agg cs vs h1 h2 h3 ih =>
    cases hl with
    | agg _ h => exact .agg cs vs h1 (fun j x v hx hv => ih j x v hx hv (h x (List.mem_of_getElem? hx))) h3
  | tup cs vs h1 h2 ih =>
    cases hl with
    | tup _ h => exact .tup cs vs h1 fun j x v hx hv => ih j x v hx hv (h x (List.mem_of_getElem? hx))
  | _ => cases hl

/-- A value, and what it reads as. -/
inductive Fzn (h : Hp) : V → V → Prop
  | low (v : V) : Low 0 v → Fzn h v v
  | sl (b off n cap es : Nat) (ex ag : Bool) (ys : List V) : rd h (.ptr b off) (n * es) = some ys → (ag = false → es = 1) → (∀ y ∈ ys, Low 0 y) → Fzn h (.sl b off n cap ex es ag) (.lst false (chunk es ag n ys))
  | agg (cs ds : List V) : cs.length = ds.length → (∀ (j : Nat) x y, cs[j]? = some x → ds[j]? = some y → Fzn h x y) → Fzn h (.agg cs) (.agg ds)

def Fzns (h : Hp) : List V → List V → Prop
  | [], [] => True
  | a :: r, b :: s => Fzn h a b ∧ Fzns h r s
  | _, _ => False
theorem Fzns.at {h : Hp} : ∀ {l m : List V}, Fzns h l m → l.length = m.length ∧ ∀ (j : Nat) y, m[j]? = some y → ∃ x, l[j]? = some x ∧ Fzn h x y
  | [], [], _ => ⟨rfl, fun j y hy => by simp at hy⟩
  | a :: r, b :: s, H => by
    obtain ⟨h1, h2⟩ := Fzns.at H.2
    refine ⟨by simp [h1], fun j y hy => ?_⟩
    match j with
    | 0 => simp at hy; subst hy; exact ⟨a, rfl, H.1⟩
    | j + 1 => exact h2 j y (by simpa using hy)
  | [], _ :: _, H => H.elim
  | _ :: _, [], H => H.elim
def Res.sc : Res → Prop
  | .ret v => Sc v
  | .pan v => Sc v

open Classical in
noncomputable def Env.allF (E : Env) (w : World) : Env := { n := 0, mu := fun _ => none, frz := fun b o => if E.hid b = none then w.cell? ⟨b, o, none⟩ else none, old := fun _ _ => False, hid := E.hid }

theorem allF_frz {w0 w : World} {E : Env} {h : Hp} (hs : SR w0 E h w) : ∀ b o v, E.frz b o = some v → (E.allF w).frz b o = some v := fun b o v hf => by
    have h1 : E.hid b = none := by
      cases hh : E.hid b with
      | none => rfl
      | some q => have := (hs.hid b q hh).2.1 o; rw [hf] at this; cases this
    simp only [Env.allF]
    rw [if_pos h1]
    exact hs.frz b o v hf
theorem Fzn.vr {w0 w : World} {E : Env} {h : Hp} (hs : SR w0 E h w) {a y : V} (hf : Fzn h a y) : ∀ {v : Value}, VR E a v → VR (E.allF w) y v := by
  have hfz := allF_frz hs
  induction hf with
  | low _ hl => exact fun h0 => h0.lift hl hfz
  | agg cs ds hl _ ih =>
    intro v h0
    cases h0 with
    | agg _ vs h1 h2 h3 =>
      refine .agg ds vs (by rw [h1, hl]) (fun j y v hy hv => ?_) h3
      have hj : j < cs.length := by rw [hl]; exact (List.getElem?_eq_some_iff.1 hy).1
      exact ih j _ y (List.getElem?_eq_getElem hj) hy (h2 j _ v (List.getElem?_eq_getElem hj) hv)
  | sl b off n cap es ex ag ys hr hag hlow =>
    intro v h0
    simp only [rd] at hr
    split at hr
    · rename_i cs ty hgt
      obtain ⟨lc, hm, hb⟩ := hs.live hgt
      obtain ⟨hle, hln, _⟩ := sub_spec hr
      obtain ⟨us, hrow⟩ := BR.row hb hr
      have hnh : E.hid lc.b = none := by
        cases hh : E.hid lc.b with
        | none => rfl
        | some q => exact absurd rfl ((hs.hid lc.b q hh).2.2 b lc hm)
      cases h0 with
      | sl _ _ _ _ _ _ _ ad cap' hnn hl hc hex hh =>
        obtain ⟨q1, q2⟩ := hh lc hm
        refine VR.lst_of (b := lc.b) (p := lc.base + off) (vs := us) (by rw [hln]) hag ⟨hrow.1, fun j u hu => ⟨(hrow.2 j u hu).2.1, fun y hy => ((hrow.2 j u hu).2.2 y hy).lift (hlow y (List.mem_of_getElem? hy)) hfz⟩⟩ (fun j u hu => ?_) (by omega) (fun e => by cases e) _ (fun hne => ?_)
        · simp only [Env.allF]
          rw [if_pos hnh]
          exact (hrow.2 j u hu).1
        · exact q1.resolve_left (by omega)
    · cases hr

theorem PCalls.frz {x : X} (hx : XLow x) {f : FuncId} {args args' : List V} {P : Res → Prop} (H : PCalls x f args' P) (hP : ∀ r, P r → r.sc) {h : Hp} (hA : Fzns h args args') : ACalls x f args h fun r h' => P r ∧ h' = h := by
  refine ⟨H.1, fun w0 E w vs hs hg hv => ?_⟩
  have hfz := allF_frz hs
  have hsr1 : SR w (E.allF w) [] w := by
    refine ⟨rfl, Below.refl _ _, fun b o v hf => ?_, fun β x hx => (by simp at hx), fun β l hm => (by cases hm), fun β β' l l' b o h1 => (by cases h1), fun β l b o hm => (by cases hm), fun b o ho => ho.elim, fun b o ho => ⟨(hs.hid b o ho).1, fun p => ?_, fun β l hm => (by cases hm)⟩⟩
    · simp only [Env.allF] at hf
      split at hf
      · exact hf
      · cases hf
    · have ho' : E.hid b = some o := ho
      simp only [Env.allF]
      rw [if_neg (by rw [ho']; simp)]
  have hg1 : GR x (E.allF w) := fun g => (hg g).lift (.fp _ _ (hx g)) hfz
  obtain ⟨hlen, hat⟩ := hA.at
  have hv1 : VRs (E.allF w) args' vs := by
    refine ⟨by rw [hv.1, hlen], fun j y v hy hv' => ?_⟩
    obtain ⟨a, ha, hfzn⟩ := hat j y hy
    exact Fzn.vr hs hfzn (hv.2 j a v ha hv')
  refine (H.2 w (E.allF w) w vs hsr1 hg1 hv1).mono ?_
  rintro e w' ⟨E', h', r, hE, hsr, hr, hPr, rfl⟩
  have hsc := hP r hPr
  have hsz := hsr.below.size
  let E2 : Env := { n := E.n, mu := E.mu, frz := fun b o => if b < w.heap.size then E.frz b o else E'.frz b o, old := E.old, hid := E.hid }
  have hlt : ∀ b o v, E.frz b o = some v → b < w.heap.size := fun b o v hf => World.block_lt_of_cell? w _ (hs.frz _ _ _ hf)
  have hle : Le E E2 := ⟨Nat.le_refl _, fun _ _ _ hm => hm, fun b o v hf => by
    show (if b < w.heap.size then E.frz b o else E'.frz b o) = some v
    rw [if_pos (hlt b o v hf)]; exact hf, rfl, rfl⟩
  refine ⟨E2, h, r, hle, ?_, ?_, hPr, rfl⟩
  · refine ⟨hs.len, hs.below.trans (hsr.below.mono hs.below.size), fun b o v hf => ?_, fun β y hy => ?_, hs.non, hs.dis, fun β l b o hm ho => ?_, fun b o ho => ?_, fun b o ho => ?_⟩
    · have hf' : (if b < w.heap.size then E.frz b o else E'.frz b o) = some v := hf
      split at hf'
      · rename_i hb
        rw [hsr.below.cell (p := ⟨b, o, none⟩) hb]
        exact hs.frz b o v hf'
      · exact hsr.frz b o v hf'
    · obtain ⟨l, hl, hr⟩ := hs.blk β y hy
      exact ⟨l, hl, BR.mono hle hsr.below.size (hsr.below.block _ hr.lt).symm hr⟩
    · obtain ⟨y, hy⟩ := hs.non β l hm
      obtain ⟨l2, hm2, hr⟩ := hs.blk β y hy
      have hm' : E.mu β = some l := hm
      rw [hm'] at hm2; cases hm2
      have hb : b < w.heap.size := by rw [hr.own b o ho]; exact hr.lt
      show (if b < w.heap.size then E.frz b o else E'.frz b o) = none
      rw [if_pos hb]
      exact hs.dfr β l b o hm ho
    · have h1 := hs.old b o ho
      refine ⟨Nat.lt_of_lt_of_le h1.1 hsz, ?_, h1.2.2⟩
      show (if b < w.heap.size then E.frz b o else E'.frz b o) = none
      rw [if_pos h1.1]; exact h1.2.1
    · have h1 := hs.hid b o ho
      have hb : b < w.heap.size := (Array.getElem?_eq_some_iff.1 h1.1).1
      refine ⟨by rw [hsr.below.block _ hb]; exact h1.1, fun p => ?_, h1.2.2⟩
      show (if b < w.heap.size then E.frz b p else E'.frz b p) = none
      rw [if_pos hb]; exact h1.2.1 p
  · cases r with
    | ret a =>
      cases e with
      | returned u => exact VR.sc hr hsc
      | panicked l => exact hr.elim
      | outgrown => exact hr.elim
    | pan a =>
      cases e with
      | returned u => exact hr.elim
      | outgrown => exact hr.elim
      | panicked l =>
        obtain ⟨v, hv, rfl⟩ := hr
        exact ⟨v, VR.sc hv hsc, rfl⟩
end Go.Vs
namespace Go.Vs
open Go.RowKit
set_option linter.unusedVariables false
variable (x : X)

/-- A step that leaves the heap. -/
def vLq (Q : V → Prop) (s : St) : Option Rz → Prop
  | some (.val v h) => h = s.h ∧ Q v
  | some (.call f args) => ∃ v, ACalls x f args s.h (fun a b => a = .ret v ∧ b = s.h) ∧ Q v
  | _ => False
def vLg (s : St) (Q : V → Prop) : Option A → Prop
  | some ⟨_, i, none⟩ => vLq x Q s (aop x s.t s.h i)
  | some ⟨_, i, some g⟩ => (if wanted s.t (some g) = true then vLq x Q s (aop x s.t s.h i) else Q udf)
  | none => False
def dstO : Option A → Option Nat
  | some b => b.dst
  | none => none
def reL (ops : List A) : List Nat → St → Prop
  | [], _ => True
  | j :: r, s => (∃ e, dstO (nth ops j) = some e ∧ vLg x s (fun v => v = s.t e) (nth ops j)) ∧ reL ops r s
def vLs (ops : List A) (L : List Nat) (Q : Ex → St → Prop) : List (Nat × Option (List Nat)) → St → Prop
  | [], s => Q .normal s
  | (i, none) :: r, s => vLg x s (fun v => vLs ops L Q r { s with t := put s.t (dstO (nth ops i)) v }) (nth ops i)
  | (i, some re) :: r, s => match nth ops i with
    | some b => vop x b (anyT Q) (fun s' => reL x ops re s' ∧ vLs ops L Q r s') (tell ops (nd ops L i) s)
    | none => False

variable {x}
theorem vLg_val {s : St} {Q : V → Prop} {b : A} (h : vLg x s Q (some b)) : ∃ v, Val x b s.t s.h v ∧ Q v := by
  have key : ∀ i, vLq x Q s (aop x s.t s.h i) → ∃ v, (aop x s.t s.h i = some (.val v s.h) ∨ ∃ f args, aop x s.t s.h i = some (.call f args) ∧ ACalls x f args s.h fun a b => a = .ret v ∧ b = s.h) ∧ Q v := by
    intro i h
    generalize aop x s.t s.h i = z at h
    rcases z with _ | z
    · cases h
    · cases z <;> first | (obtain ⟨rfl, h⟩ := h; exact ⟨_, .inl rfl, h⟩) | (obtain ⟨v, h1, h2⟩ := h; exact ⟨v, .inr ⟨_, _, rfl, h1⟩, h2⟩) | cases h
  obtain ⟨d, i, g⟩ := b
  cases g with
  | none =>
    obtain ⟨v, h1, h2⟩ := key i h
    exact ⟨v, ⟨fun _ => h1, fun e => by cases e⟩, h2⟩
  | some g =>
    simp only [vLg] at h
    cases hw : wanted s.t (some g) with
    | true =>
      rw [hw, if_pos rfl] at h
      obtain ⟨v, h1, h2⟩ := key i h
      exact ⟨v, ⟨fun _ => h1, fun e => by rw [hw] at e; cases e⟩, h2⟩
    | false =>
      rw [hw, if_neg (by decide)] at h
      exact ⟨udf, ⟨fun e => absurd (hw.symm.trans e) (by decide), fun _ => rfl⟩, h⟩
theorem reL_spec {ops : List A} : ∀ {re : List Nat} {s : St}, reL x ops re s → ∀ j ∈ re, ∃ o e, ops[j]? = some o ∧ o.dst = some e ∧ Val x o s.t s.h (s.t e)
  | [], s, _, j, hj => by cases hj
  | k :: re, s, h, j, hj => by
    rcases List.mem_cons.1 hj with rfl | hj
    · obtain ⟨⟨e, he, hv⟩, _⟩ := h
      change dstO (ops[j]?) = some e at he
      change vLg x s _ (ops[j]?) at hv
      cases ho : ops[j]? with
      | none => rw [ho] at he; cases he
      | some o =>
        rw [ho] at he hv
        obtain ⟨v, h1, rfl⟩ := vLg_val hv
        exact ⟨o, e, rfl, he, h1⟩
    · exact reL_spec h.2 j hj
theorem vLin_of {ops : List A} {L : List Nat} {Q : Ex → St → Prop} : ∀ {l : List (Nat × Option (List Nat))} {s : St}, vLs x ops L Q l s → vLin x ops L Q l s
  | [], s, h => h
  | (i, none) :: r, s, h => by
    simp only [vLs, nth] at h
    cases ho : ops[i]? with
    | none => rw [ho] at h; cases h
    | some b =>
      rw [ho] at h
      obtain ⟨v, h1, h2⟩ := vLg_val h
      exact ⟨b, v, ho, h1, vLin_of h2⟩
  | (i, some re) :: r, s, h => by
    simp only [vLs, nth] at h
    cases ho : ops[i]? with
    | none => rw [ho] at h; cases h
    | some b =>
      rw [ho] at h
      refine ⟨b, ho, ?_⟩
      exact vop_mono (fun _ _ h => h) (fun s1 h => ⟨reL_spec h.1, vLin_of h.2⟩) h
theorem vD_lin {ops : List A} {L : List Nat} {Q : Ex → St → Prop} {l : List (Nat × Option (List Nat))} {s : St} (h : vLs x ops L Q l s) : vD x ops Q (.lin L l) s := vLin_of h
end Go.Vs
namespace Go.Vs
open Go.RowKit
set_option linter.unusedSimpArgs false
set_option linter.unusedVariables false

theorem vpt (b o : Nat) : veq .ptr (.ptr b o) .nptr = some false := rfl
theorem vpn : veq .ptr .nptr .nptr = some true := rfl
theorem vmp (b : Nat) : veq .map (.map b) .nmap = some false := rfl
theorem vic (t : TypeId) (v : V) : veq .ifc (.ifc t v) .nifc = some false := rfl
theorem vsn : veq .slc .nsl .nsl = some true := rfl
theorem nilV_ptr (x : X) (h : Hp) (b o : Nat) : nilV x h (.ptr b o) = some (.val (.ptr b o) h) := rfl

theorem Own.push {h : Hp} {k es : Nat} {ag : Bool} {v : V} {n : Nat} {ys : List V} (H : Own h k es ag v n ys) (l : Hp) : Own (h ++ l) k es ag v n ys := by
  refine ⟨H.1, ?_⟩
  rcases H.2 with hh | hh | ⟨b, cap, ex, rest, ty, c1, c2, c3, c4⟩
  · exact .inl hh
  · exact .inr (.inl hh)
  · exact .inr (.inr ⟨b, cap, ex, rest, ty, c1, c2, by rw [hget_old (hget_lt c3)]; exact c3, c4⟩)
theorem Own.keepB {h h' : Hp} {k es : Nat} {ag : Bool} {v : V} {n : Nat} {ys : List V} (H : Own h k es ag v n ys) (hk : ∀ b, v.blk = some b → hget h' b = hget h b) : Own h' k es ag v n ys := by
  refine ⟨H.1, ?_⟩
  rcases H.2 with hh | hh | ⟨b, cap, ex, rest, ty, c1, c2, c3, c4⟩
  · exact .inl hh
  · exact .inr (.inl hh)
  · exact .inr (.inr ⟨b, cap, ex, rest, ty, c1, c2, by rw [hk b (by rw [c1]; rfl)]; exact c3, c4⟩)
theorem Own.blk_ge {h : Hp} {k es : Nat} {ag : Bool} {v : V} {n : Nat} {ys : List V} (H : Own h k es ag v n ys) {b : Nat} (hb : v.blk = some b) : k ≤ b := by
  rcases H.2 with ⟨rfl, _⟩ | ⟨rfl, _⟩ | ⟨b', cap, ex, rest, ty, rfl, c2, c3, c4⟩
  · cases hb
  · cases hb
  · simp only [V.blk, Option.some.injEq] at hb
    subst hb; exact c2
theorem Own.low {h : Hp} {k k' es : Nat} {ag : Bool} {v : V} {n : Nat} {ys : List V} (H : Own h k es ag v n ys) (hk : k' ≤ k) : Own h k' es ag v n ys := by
  refine ⟨H.1, ?_⟩
  rcases H.2 with hh | hh | ⟨b, cap, ex, rest, ty, c1, c2, c3, c4⟩
  · exact .inl hh
  · exact .inr (.inl hh)
  · exact .inr (.inr ⟨b, cap, ex, rest, ty, c1, Nat.le_trans hk c2, c3, c4⟩)
theorem Own.lenV {h : Hp} {k es : Nat} {ag : Bool} {v : V} {n : Nat} {ys : List V} (H : Own h k es ag v n ys) : lenV h .slc v = some (.int .i64 n) := by
  obtain ⟨hl, ⟨rfl, rfl⟩ | ⟨rfl, rfl⟩ | ⟨b, cap, ex, rest, ty, rfl, hb, hg, hc, hce⟩⟩ := H <;> rfl
theorem Own.onec {h : Hp} {k es : Nat} {ag : Bool} {v : V} {n : Nat} {ys : List V} (H : Own h k es ag v n ys) : v.one = true ∧ v.cells = [v] := by
  rcases H.2 with ⟨rfl, _⟩ | ⟨rfl, _⟩ | ⟨b', cap, ex, rest, ty, rfl, c2, c3, c4⟩ <;> exact ⟨rfl, rfl⟩
theorem Frm.get {k : Nat} {h h' : Hp} (H : Frm k h h') {c : Nat} (hc : c < k) : hget h' c = hget h c := by
  have e : ∀ l : Hp, hget (l.take k) c = hget l c := fun l => by unfold hget; rw [List.getElem?_take_of_lt hc]
  rw [← e h', H.2, e h]
theorem Own.at {h : Hp} {k : Nat} {v : V} {n : Nat} {ys : List V} (H : Own h k 1 false v n ys) {i : Nat} (hi : i < n) : ∃ a, iadV 1 v (.int .i64 i) = some a ∧ rd h a 1 = some [ys.getD i .nptr] := by
  obtain ⟨hl, ⟨rfl, rfl⟩ | ⟨rfl, rfl⟩ | ⟨b, cap, ex, rest, ty, rfl, hb, hg, hc, hce⟩⟩ := H
  · omega
  · omega
  · refine ⟨.ptr b (0 + i * 1), ?_, ?_⟩
    · simp only [iadV, Int.toNat_natCast]
      rw [if_pos (by refine ⟨?_, ?_, ?_⟩ <;> first | trivial | omega)]
    · simp only [rd, hg, sub]
      rw [if_pos (by simp; omega)]
      rw [List.drop_append_of_le_length (by omega)]
      have e : List.drop i ys = ys[i] :: List.drop (i + 1) ys := List.drop_eq_getElem_cons (by omega)
      simp
      rw [e, List.getElem?_eq_getElem (by omega), List.cons_append]
      rfl
theorem st_cell {h : Hp} {β : Nat} {cs : List V} {ty : Option TypeId} (hg : hget h β = some (.cells cs ty)) {o : Nat} {v : V} (h1 : v.one = true) (h2 : v.cells = [v]) (ho : o < cs.length) : stV h 1 (.ptr β o) v = some (.skip (h.set β (some (.cells (cs.set o v) ty)))) := by
  simp only [stV, h2, wr, hg]
  rw [if_pos ⟨rfl, by simp [h1]⟩, if_pos (by simpa using Nat.succ_le_of_lt ho)]
  simp [setAll]
theorem rd_cell {h : Hp} {β : Nat} {cs : List V} {ty : Option TypeId} (hg : hget h β = some (.cells cs ty)) (o : Nat) : rd h (.ptr β o) 1 = sub cs o 1 := by
  simp only [rd, hg]
end Go.Vs
namespace Go.Vs
/-- y tells what x tells of package variables, and more. -/
structure XUp (x y : X) : Prop where
  P : y.P = x.P
  M : y.M = x.M
  G : ∀ g, x.G g = y.G g ∨ x.G g = []
theorem VR.fp_nil {E : Env} {cs : List V} {v : Value} {o : Nat} (h : VR E (.fp cs o) v) : VR E (.fp [] o) v := by
  cases h with
  | fp _ _ b p vals h1 h2 h3 => exact .fp [] o b p vals (fun j hj => absurd hj (Nat.not_lt_zero j)) (fun j hj => absurd hj (Nat.not_lt_zero j)) (fun j hj => absurd hj (Nat.not_lt_zero j))
theorem XUp.gr {x y : X} (H : XUp x y) {E : Env} (h : GR y E) : GR x E := fun g => by
  rcases H.G g with e | e
  · rw [e]; exact h g
  · rw [e]; exact (h g).fp_nil
theorem ACalls.up {x y : X} (H : XUp x y) {f : FuncId} {args : List V} {h : Hp} {R : Res → Hp → Prop} (h1 : ACalls x f args h R) : ACalls y f args h R := by
  refine ⟨by rw [H.P]; exact h1.1, fun w0 E w vs hs hg hv => ?_⟩
  rw [H.P]
  exact h1.2 w0 E w vs hs (H.gr hg) hv
theorem PCalls.up {x y : X} (H : XUp x y) {f : FuncId} {args : List V} {P : Res → Prop} (h1 : PCalls x f args P) : PCalls y f args P := ACalls.up H h1

namespace K
noncomputable section
end
end K
end Go.Vs
