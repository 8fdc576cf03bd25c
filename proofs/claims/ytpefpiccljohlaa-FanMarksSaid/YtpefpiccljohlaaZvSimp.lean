/- How what is to be shown of code is gone through. -/
import Derived.Test.YtpefpiccljohlaaZvRec
namespace Go.Vs
open Go.RowKit
set_option linter.unusedSimpArgs false
set_option linter.unusedVariables false

theorem put_some (t : Nat → V) (d : Nat) (v : V) (n : Nat) : put t (some d) v n = if n = d then v else t n := rfl
theorem put_none (t : Nat → V) (v : V) : put t none v = t := rfl
theorem start_cons0 (a : V) (l : List V) : start (a :: l) 0 = a := rfl
theorem start_succ (a : V) (l : List V) (n : Nat) : start (a :: l) (n + 1) = start l n := rfl

def V.fits : V → Prop
  | .sl _ _ len cap _ _ _ => len ≤ cap
  | _ => True

/-- A slice of elements of 'es' cells each, read cell by cell. -/
def Sl (h : Hp) (es : Nat) (s : V) (n : Nat) (ys : List V) : Prop := src h es s = some (n, ys) ∧ s.isStr = false ∧ s.fits

theorem Sl.shape {h : Hp} {es : Nat} {s : V} {n : Nat} {ys : List V} (H : Sl h es s n ys) : (s = .nsl ∧ n = 0 ∧ ys = []) ∨
    (∃ b off cap ex ag cs ty, s = .sl b off n cap ex es ag ∧ hget h b = some (.cells cs ty) ∧ sub cs off (n * es) = some ys ∧ n ≤ cap) ∨
    (∃ ex xs, s = .lst ex xs ∧ n = xs.length ∧ ys = flat xs ∧ ∀ x ∈ xs, x.cells.length = es) := by
  obtain ⟨h1, h2, hfit⟩ := H
  unfold src at h1
  split at h1
  · simp only [Option.some.injEq, Prod.mk.injEq] at h1
    exact .inl ⟨rfl, h1.1.symm, h1.2.symm⟩
  · rename_i b off len cap ex es' ag
    split at h1
    · rename_i he
      subst he
      simp only [Option.map_eq_some_iff, Prod.mk.injEq] at h1
      obtain ⟨l, h3, rfl, rfl⟩ := h1
      simp only [rd] at h3
      split at h3
      · rename_i cs ty hg
        exact .inr (.inl ⟨b, off, cap, ex, ag, cs, ty, rfl, hg, h3, hfit⟩)
      · cases h3
    · cases h1
  · rename_i ex xs
    split at h1
    · rename_i hx
      simp only [Option.some.injEq, Prod.mk.injEq] at h1
      exact .inr (.inr ⟨ex, xs, rfl, h1.1.symm, h1.2.symm, hx⟩)
    · cases h1
  · simp [V.isStr] at h2
  · cases h1

theorem Sl.len {h : Hp} {es : Nat} {s : V} {n : Nat} {ys : List V} (H : Sl h es s n ys) : lenV h .slc s = some (.int .i64 n) := by
  rcases H.shape with ⟨rfl, rfl, _⟩ | ⟨b, off, cap, ex, ag, cs, ty, rfl, _, _, _⟩ | ⟨ex, xs, rfl, rfl, _, _⟩ <;> rfl

theorem sub_len {cs l : List V} {o n : Nat} (h : sub cs o n = some l) : l.length = n := (sub_spec h).2.1

theorem flat_length {xs : List V} {es : Nat} (h : ∀ x ∈ xs, x.cells.length = es) : (flat xs).length = xs.length * es := by
  induction xs with
  | nil => simp [flat]
  | cons x r ih =>
    have h1 := h x (by simp)
    have h2 := ih (fun y hy => h y (by simp [hy]))
    simp only [flat, List.flatMap_cons, List.length_append, List.length_cons] at h2 ⊢
    rw [h1, h2, Nat.succ_mul]; omega

theorem Sl.ylen {h : Hp} {es : Nat} {s : V} {n : Nat} {ys : List V} (H : Sl h es s n ys) : ys.length = n * es := by
  rcases H.shape with ⟨rfl, rfl, rfl⟩ | ⟨b, off, cap, ex, ag, cs, ty, rfl, _, h3, _⟩ | ⟨ex, xs, rfl, rfl, rfl, h3⟩
  · simp
  · exact sub_len h3
  · exact flat_length h3

/-- The element's address. -/
def iadV (es : Nat) (s i : V) : Option V := match s, i with
  | .sl b off len _ _ es' _, .int _ i => if es' = es ∧ 0 ≤ i ∧ i < len then some (.ptr b (off + i.toNat * es)) else none
  | .lst _ xs, .int _ i => if 0 ≤ i ∧ i < xs.length ∧ (xs.getD i.toNat .nptr).cells.length = es then some (.fp (xs.getD i.toNat .nptr).cells 0) else none
  | _, _ => none

theorem aop_iad (x : X) (t : Nat → V) (h : Hp) (es : Nat) (a i : O) : aop x t h (.iad es a i) = (iadV es (a.ev x t) (i.ev x t)).map fun v => .val v h := by
  simp only [aop, iadV]
  generalize a.ev x t = u
  generalize i.ev x t = v
  cases u <;> cases v <;> first | rfl | (simp only []; split <;> rfl)

theorem flat_sub {xs : List V} {es : Nat} (h : ∀ x ∈ xs, x.cells.length = es) {i : Nat} (hi : i < xs.length) : ((flat xs).drop (i * es)).take es = (xs.getD i .nptr).cells := by
  induction xs generalizing i with
  | nil => simp at hi
  | cons x r ih =>
    have h1 := h x (by simp)
    cases i with
    | zero => simp [flat, h1]
    | succ i =>
      have h2 := ih (fun y hy => h y (by simp [hy])) (i := i) (by simpa using hi)
      have e : (flat (x :: r)).drop ((i + 1) * es) = (flat r).drop (i * es) := by
        simp only [flat, List.flatMap_cons]
        rw [List.drop_append, Nat.succ_mul, List.drop_eq_nil_of_le (by omega), h1]
        simp
      rw [e, h2]; simp

theorem Sl.at {h : Hp} {es : Nat} {s : V} {n : Nat} {ys : List V} (H : Sl h es s n ys) {k : IntKind} {i : Nat} (hi : i < n) : ∃ p, iadV es s (.int k i) = some p ∧ rd h p es = some ((ys.drop (i * es)).take es) := by
  rcases H.shape with ⟨rfl, rfl, rfl⟩ | ⟨b, off, cap, ex, ag, cs, ty, rfl, hg, h3, _⟩ | ⟨ex, xs, rfl, rfl, rfl, h3⟩
  · omega
  · refine ⟨.ptr b (off + i * es), by simp [iadV, hi], ?_⟩
    have hle : (i + 1) * es ≤ n * es := Nat.mul_le_mul_right _ (by omega)
    rw [Nat.succ_mul] at hle
    simp only [rd, hg]
    unfold sub at h3 ⊢
    split at h3
    · cases h3
      rw [if_pos (by omega)]
      congr 1
      rw [List.drop_take, List.drop_drop, List.take_take]
      congr 1
      omega
    · cases h3
  · have hgd : (xs.getD i .nptr).cells.length = es := by
      rw [List.getD_eq_getElem?_getD, List.getElem?_eq_getElem hi]
      exact h3 _ (List.getElem_mem hi)
    refine ⟨.fp (xs.getD i .nptr).cells 0, by simp only [iadV, Int.toNat_natCast]; rw [if_pos ⟨by omega, by omega, hgd⟩], ?_⟩
    simp only [rd]
    unfold sub
    rw [if_pos (by omega), flat_sub h3 hi]
    rw [List.drop_zero, List.take_of_length_le (by omega)]


section
variable (x : X) (t : Nat → V) (h : Hp)
theorem aop_mov (a : O) : aop x t h (.mov a) = some (.val (a.ev x t) h) := rfl
theorem aop_pick (c a b : O) {v : Bool} (hc : c.ev x t = .bool v) : aop x t h (.pick c a b) = some (.val (if v then a.ev x t else b.ev x t) h) := by simp only [aop, hc]
theorem aop_new (z : List V) (ty : Option TypeId) : aop x t h (.new z ty) = some (.val (.ptr h.length 0) (h ++ [some (.cells z ty)])) := rfl
theorem aop_box (ty : Option TypeId) (a : O) : aop x t h (.box ty a) = if ∀ c ∈ (a.ev x t).cells, c.one = true then some (.val (.ptr h.length 0) (h ++ [some (.cells (a.ev x t).cells ty)])) else none := rfl
theorem aop_build (z : List V) (ps : List (Nat × Nat × O)) : aop x t h (.build z ps) = (fillV z (ps.map fun (o, n, a) => (o, n, a.ev x t))).map fun cs => .val (.agg cs) h := rfl
theorem aop_mks (es bt : Nat) (ag : Bool) (z : List V) (len : Nat) (ps : List (Nat × O)) : aop x t h (.mks true es bt ag z len ps) = (fillV z (ps.map fun (i, a) => (i * es, es, a.ev x t))).map fun cs => .val (.lst true (chunk es ag len cs)) h := by
  simp only [aop]; split <;> rename_i hf <;> rw [hf] <;> rfl
theorem aop_mksl0 (es bt : Nat) (ag : Bool) (z : List V) (len : Nat) (ps : List (Nat × O)) : aop x t h (.mks false es bt ag z len ps) = (fillV z (ps.map fun (i, a) => (i * es, es, a.ev x t))).map fun cs => .val (.sl h.length 0 len len true es ag) (h ++ [some (.cells cs)]) := by
  simp only [aop]; split <;> rename_i hf <;> rw [hf] <;> rfl
theorem aop_load (n : Nat) (ag : Bool) (a : O) : aop x t h (.load n ag a) = ((rd h (a.ev x t) n).bind (asV ag)).map fun v => .val v h := rfl
def stV (h : Hp) (n : Nat) (a v : V) : Option Rz := match a with
  | .ptr b o => if v.cells.length = n ∧ (∀ c ∈ v.cells, c.one = true) then (wr h b o v.cells).map .skip else none
  | _ => none
theorem aop_store (n : Nat) (a v : O) : aop x t h (.store n a v) = stV h n (a.ev x t) (v.ev x t) := rfl
def nilV (h : Hp) : V → Option Rz
  | .ptr b o => some (.val (.ptr b o) h)
  | .fp cs o => some (.val (.fp cs o) h)
  | .fn (.func f) a b => some (.val (.fn (.func f) a b) h)
  | _ => none
theorem aop_nilck (a : O) : aop x t h (.nilck a) = nilV h (a.ev x t) := rfl
theorem aop_bin (op : BinOp) (q : Q) (a b : O) : aop x t h (.bin op q a b) = (if q = .ifc ∧ a.isTmp = true ∧ b.isTmp = true then none else binV op q (a.ev x t) (b.ev x t)).map fun v => .val v h := rfl
theorem aop_un (op : UnOp) (a : O) : aop x t h (.un op a) = (unV op (a.ev x t)).map fun v => .val v h := rfl
def cviV (k : IntKind) : V → Option V
  | .int _ n => some (.int k (k.wrap n))
  | _ => none
theorem aop_cvi (k : IntKind) (a : O) : aop x t h (.cvi k a) = (cviV k (a.ev x t)).map fun v => .val v h := by
  simp only [aop]; generalize a.ev x t = u; cases u <;> rfl
def s2bV (h : Hp) (fz : Bool) : V → Option Rz
  | .str s => if fz then some (.val (.lst false (s.map fun c => .int .u8 c.toNat)) h) else some (newSl h s.length 1 false (s.map fun c => .int .u8 c.toNat))
  | _ => none
theorem aop_s2b (fz : Bool) (a : O) : aop x t h (.s2b fz a) = s2bV h fz (a.ev x t) := rfl
def b2sV (h : Hp) (v : V) : Option V := if v.isStr = true then none else match src h 1 v with
  | some (_, cs) => if ∀ c ∈ cs, c.isByte = true then some (.str (cs.map fun | .int _ n => UInt8.ofNat n.toNat | _ => 0)) else none
  | none => none
theorem aop_b2s (a : O) : aop x t h (.b2s a) = (b2sV h (a.ev x t)).map fun v => .val v h := by
  simp only [aop, b2sV]
  generalize a.ev x t = u
  cases u.isStr <;> simp only [if_true, if_false, Bool.false_eq_true]
  · generalize src h 1 u = y
    cases y with
    | none => rfl
    | some p => simp only []; split <;> rfl
  · rfl
theorem aop_mki (ty : TypeId) (a : O) : aop x t h (.mki ty a) = some (.val (.ifc ty (a.ev x t)) h) := rfl
def fadV (h : Hp) (off : Nat) : V → Option Rz
  | .ptr b o => some (.val (.ptr b (o + off)) h)
  | .fp cs o => some (.val (.fp cs (o + off)) h)
  | _ => none
theorem aop_fad (off : Nat) (a : O) : aop x t h (.fad off a) = fadV h off (a.ev x t) := rfl
def fldV (h : Hp) (off n : Nat) (ag : Bool) : V → Option Rz
  | .agg cs => ((sub cs off n).bind (asV ag)).map fun v => .val v h
  | _ => none
theorem aop_fld (off n : Nat) (ag : Bool) (a : O) : aop x t h (.fld off n ag a) = fldV h off n ag (a.ev x t) := rfl
def idxsV (h : Hp) : V → V → Option Rz
  | .str s, .int _ i => if 0 ≤ i ∧ i < s.length then some (.val (.int .u8 (s.getD i.toNat 0).toNat) h) else none
  | _, _ => none
theorem aop_idxs (a i : O) : aop x t h (.idxs a i) = idxsV h (a.ev x t) (i.ev x t) := rfl
def extV (h : Hp) (i : Nat) : V → Option Rz
  | .tup vs => (vs[i]?).map fun v => .val v h
  | _ => none
theorem aop_ext (a : O) (i : Nat) : aop x t h (.ext a i) = extV h i (a.ev x t) := rfl
theorem aop_len (q : Q) (a : O) : aop x t h (.len q a) = (lenV h q (a.ev x t)).map fun v => .val v h := rfl
theorem aop_lenc (n : Nat) : aop x t h (.lenc n) = some (.val (.int .i64 n) h) := rfl
def appR (h : Hp) (es bt : Nat) (ag : Bool) (ty : Option TypeId) (s a : V) : Option Rz := match src h es a with
  | some (n, ys) => appV h es bt ag ty s n ys
  | none => none
theorem aop_app (es bt : Nat) (ag : Bool) (ty : Option TypeId) (s a : O) : aop x t h (.app es bt ag ty s a) = appR h es bt ag ty (s.ev x t) (a.ev x t) := rfl
theorem aop_slc_lo (st : Bool) (es : Nat) (a lo : O) : aop x t h (.slc st es a (some lo) none none) = if (a.ev x t).isStr ≠ st then none else match bnd x t 0 (some lo) with
  | some l => (slcV es (a.ev x t) l none none).map fun v => .val v h
  | none => none := by simp only [aop]; split; rfl; generalize bnd x t 0 (some lo) = u; cases u <;> rfl
theorem aop_slc_hi (st : Bool) (es : Nat) (a hi : O) : aop x t h (.slc st es a none (some hi) none) = if (a.ev x t).isStr ≠ st then none else match bnd x t 0 (some hi) with
  | some u => (slcV es (a.ev x t) 0 (some u) none).map fun v => .val v h
  | none => none := by simp only [aop, Option.map_some, Option.map_none]; split; rfl; generalize bnd x t 0 (some hi) = u; cases u <;> rfl
theorem aop_slc_lohi (st : Bool) (es : Nat) (a lo hi : O) : aop x t h (.slc st es a (some lo) (some hi) none) = if (a.ev x t).isStr ≠ st then none else match bnd x t 0 (some lo), bnd x t 0 (some hi) with
  | some l, some u => (slcV es (a.ev x t) l (some u) none).map fun v => .val v h
  | _, _ => none := by simp only [aop, Option.map_some, Option.map_none]; split; rfl; generalize bnd x t 0 (some hi) = u; generalize bnd x t 0 (some lo) = l; cases u <;> cases l <;> rfl
theorem aop_slc3 (st : Bool) (es : Nat) (a lo hi mx : O) : aop x t h (.slc st es a (some lo) (some hi) (some mx)) = if (a.ev x t).isStr ≠ st then none else match bnd x t 0 (some lo), bnd x t 0 (some hi), bnd x t 0 (some mx) with
  | some l, some u, some m => (slcV es (a.ev x t) l (some u) (some m)).map fun v => .val v h
  | _, _, _ => none := by simp only [aop, Option.map_some, Option.map_none]; split; rfl; generalize bnd x t 0 (some hi) = u; generalize bnd x t 0 (some lo) = l; generalize bnd x t 0 (some mx) = m; cases u <;> cases l <;> cases m <;> rfl
theorem bnd_some (d : Nat) (o : O) : bnd x t d (some o) = match o.ev x t with
  | .int _ n => if 0 ≤ n then some n.toNat else none
  | _ => none := rfl
def clrV (h : Hp) (z : List V) : V → Option Rz
  | .nsl => some (.val (.tup []) h)
  | .sl b off len _ _ es _ => if z.length = es then (if len = 0 then some (.val (.tup []) h) else (wr h b off (List.replicate len z).flatten).map (.val (.tup []))) else none
  | _ => none
theorem aop_clr (z : List V) (a : O) : aop x t h (.clr z a) = clrV h z (a.ev x t) := rfl
def pneV (h : Hp) : V → V → Option Rz
  | .ptr b o, .ptr b' o' => if b = b' ∧ o = o' ∧ (hget h b).isSome = true then some (.val (.bool false) h) else none
  | _, _ => none
theorem aop_pne (a b : O) : aop x t h (.pne a b) = pneV h (a.ev x t) (b.ev x t) := rfl
def toUV (h : Hp) : V → Option Rz
  | .nptr => some (.val .nptr h)
  | .ptr b o => match rd h (.ptr b o) 1 with
    | some _ => some (.val (.ptr b o) h)
    | none => none
  | _ => none
theorem aop_toU (a : O) : aop x t h (.toU a) = toUV h (a.ev x t) := rfl
def frUV (h : Hp) (ty : TypeId) (n : Nat) : V → Option Rz
  | .nptr => some (.val .nptr h)
  | .ptr b o => match hget h b with
    | some (.cells cs (some ty')) => if ty' = ty ∧ o = 0 ∧ n ≤ cs.length then some (.val (.ptr b o) h) else none
    | _ => none
  | _ => none
theorem aop_frU (ty : TypeId) (n : Nat) (a : O) : aop x t h (.frU ty n a) = frUV h ty n (a.ev x t) := rfl
theorem aop_noEsc (a : O) : aop x t h (.noEsc a) = some (.val (a.ev x t) h) := rfl
def sldV (h : Hp) : V → Option Rz
  | .nsl => some (.val .nptr h)
  | .sl b off _ cap _ _ _ => if 0 < cap then some (.val (.ptr b off) h) else none
  | _ => none
theorem aop_sld (a : O) : aop x t h (.sld a) = sldV h (a.ev x t) := rfl
def ustrV (h : Hp) (ty : TypeId) : V → V → Option Rz
  | .nptr, .int .i64 n => if n = 0 then some (.val (.str []) h) else none
  | .ptr b o, .int .i64 n => if n = 0 then some (.val (.str []) h) else
    match hget h b with
    | some (.cells cs (some ty')) => if ty' = ty ∧ o = 0 ∧ 0 ≤ n ∧ n ≤ 9223372036854775807 then (match sub cs 0 n.toNat with
      | some l => if ∀ c ∈ l, c.isByte = true then some (.val (.str (l.map fun | .int _ n => UInt8.ofNat n.toNat | _ => 0)) (h.set b none)) else none
      | none => none) else none
    | _ => none
  | _, _ => none
theorem aop_ustr (ty : TypeId) (p n : O) : aop x t h (.ustr ty p n) = ustrV h ty (p.ev x t) (n.ev x t) := rfl
def pickV : V → V → V → Option V
  | .bool c, a, b => some (if c then a else b)
  | _, _, _ => none
theorem aop_pickV (c a b : O) : aop x t h (.pick c a b) = (pickV (c.ev x t) (a.ev x t) (b.ev x t)).map fun v => .val v h := by
  simp only [aop, pickV]; generalize c.ev x t = u; cases u <;> rfl
theorem pickV_bool (c : Bool) (a b : V) : pickV (.bool c) a b = some (if c then a else b) := rfl
def asrtV (h : Hp) (ty : TypeId) (zero : V) (ok : Bool) : V → Option Rz
  | .ifc u v => if u = ty then some (.val (if ok then .tup [v, .bool true] else v) h) else if ok then some (.val (.tup [zero, .bool false]) h) else none
  | .nifc => if ok then some (.val (.tup [zero, .bool false]) h) else none
  | _ => none
theorem aop_asrt (ty : TypeId) (zero : V) (a : O) (ok : Bool) : aop x t h (.asrt ty zero a ok) = asrtV h ty zero ok (a.ev x t) := rfl
def panV : V → Option Rz
  | .ifc ty v => some (.pan (.ifc ty v))
  | _ => none
theorem aop_pan (a : O) : aop x t h (.pan a) = panV (a.ev x t) := rfl
theorem aop_call (f : FuncId) (args : List O) : aop x t h (.call (.k (.fn (.func f) [] [])) args) = some (.call f (evs x t args)) := by
  simp only [aop, O.ev, callV, Option.map_some, List.nil_append, List.append_nil]
theorem aop_dfr (f : FuncId) (args : List O) : aop x t h (.dfr (.k (.fn (.func f) [] [])) args) = some (.dfr f (evs x t args)) := by
  simp only [aop, O.ev, callV, Option.map_some, List.nil_append, List.append_nil]
def maxV (h : Hp) : V → V → Option Rz
  | .int k a, .int k' b => if k = k' then some (.val (.int k (if b > a then b else a)) h) else none
  | _, _ => none
theorem aop_max (a b : O) : aop x t h (.max a b) = maxV h (a.ev x t) (b.ev x t) := rfl
end


/-! ### Code, step by step -/
section
variable (x : X)
def thn (b : C) (Q : Ex → St → Prop) : Ex → St → Prop := fun e s => match e with
  | .normal => vc x b Q s
  | e => Q e s
def blk (id : Nat) (Q : Ex → St → Prop) : Ex → St → Prop := fun e s => match e with
  | .exit i => if i = id then Q .normal s else Q (.exit i) s
  | e => Q e s
def rnd (I : Nat → St → Prop) (n : Nat) (Q : Ex → St → Prop) : Ex → St → Prop := fun e s => match e with
  | .normal => ∃ m, m < n ∧ I m s
  | e => Q e s
def cal (Q : Ex → St → Prop) (K : St → Prop) (d : Option Nat) (s : St) : Res → Hp → Prop := fun r h => match r with
  | .ret v => K { s with t := put s.t d v, h }
  | .pan v => Q (.pan v) { s with h }
def vopR (d : Option Nat) (Q : Ex → St → Prop) (K : St → Prop) (s : St) : Option Rz → Prop
  | some (.val v h) => K { s with t := put s.t d v, h }
  | some (.skip h) => K { s with t := put s.t d udf, h }
  | some (.call f args) => ACalls x f args s.h (cal Q K d s)
  | some (.dfr f args) => K { s with t := put s.t d udf, d := (f, args) :: s.d }
  | some (.pan v) => Q (.pan v) s
  | none => False

section
variable (Q : Ex → St → Prop) (K : St → Prop) (s : St) (a b : C)
theorem vc_skip : vc x .skip Q s = Q .normal s := rfl
theorem vc_reg (l : List A) : vc x (.reg l) Q s = vops x Q l s := rfl
theorem vc_seq : vc x (.seq a b) Q s = vc x a (thn x b Q) s := rfl
theorem vc_block (id : Nat) : vc x (.block id a) Q s = vc x a (blk id Q) s := rfl
theorem vc_exit (id : Nat) : vc x (.exit id) Q s = Q (.exit id) s := rfl
theorem vc_ret : vc x .ret Q s = Q .ret s := rfl
def cnd (Q : Ex → St → Prop) (s : St) (a b : C) : V → Prop
  | .bool true => vc x a Q s
  | .bool false => vc x b Q s
  | _ => False
theorem vc_cond (o : O) : vc x (.cond o a b) Q s = cnd x Q s a b (o.ev x s.t) := rfl
theorem cnd_true : cnd x Q s a b (.bool true) = vc x a Q s := rfl
theorem cnd_false : cnd x Q s a b (.bool false) = vc x b Q s := rfl
theorem thn_normal : thn x b Q .normal s = vc x b Q s := rfl
theorem thn_exit (i : Nat) : thn x b Q (.exit i) s = Q (.exit i) s := rfl
theorem thn_ret : thn x b Q .ret s = Q .ret s := rfl
theorem thn_pan (v : V) : thn x b Q (.pan v) s = Q (.pan v) s := rfl
theorem blk_normal (i : Nat) : blk i Q .normal s = Q .normal s := rfl
theorem blk_exit (i j : Nat) : blk i Q (.exit j) s = if j = i then Q .normal s else Q (.exit j) s := rfl
theorem blk_ret (i : Nat) : blk i Q .ret s = Q .ret s := rfl
theorem blk_pan (i : Nat) (v : V) : blk i Q (.pan v) s = Q (.pan v) s := rfl
theorem rnd_normal (I : Nat → St → Prop) (n : Nat) : rnd I n Q .normal s = ∃ m, m < n ∧ I m s := rfl
theorem rnd_exit (I : Nat → St → Prop) (n i : Nat) : rnd I n Q (.exit i) s = Q (.exit i) s := rfl
theorem rnd_ret (I : Nat → St → Prop) (n : Nat) : rnd I n Q .ret s = Q .ret s := rfl
theorem rnd_pan (I : Nat → St → Prop) (n : Nat) (v : V) : rnd I n Q (.pan v) s = Q (.pan v) s := rfl
theorem cal_ret (d : Option Nat) (v : V) (h : Hp) : cal Q K d s (.ret v) h = K { s with t := put s.t d v, h } := rfl
theorem cal_pan (d : Option Nat) (v : V) (h : Hp) : cal Q K d s (.pan v) h = Q (.pan v) { s with h } := rfl
theorem vops_nil : vops x Q [] s = Q .normal s := rfl
theorem vops_cons (o : A) (r : List A) : vops x Q (o :: r) s = vop x o Q (vops x Q r) s := rfl
theorem vop_plain (d : Option Nat) (i : I) : vop x ⟨d, i, none⟩ Q K s = vopR x d Q K s (aop x s.t s.h i) := by
  have e : vop x ⟨d, i, none⟩ Q K s = (match aop x s.t s.h i with
    | some (.val v h) => K { s with t := put s.t d v, h }
    | some (.skip h) => K { s with t := put s.t d udf, h }
    | some (.call f args) => ACalls x f args s.h fun r h => match r with
      | .ret v => K { s with t := put s.t d v, h }
      | .pan v => Q (.pan v) { s with h }
    | some (.dfr f args) => K { s with t := put s.t d udf, d := (f, args) :: s.d }
    | some (.pan v) => Q (.pan v) s
    | none => False) := rfl
  rw [e]
  generalize aop x s.t s.h i = r
  rcases r with _ | r
  · rfl
  · cases r <;> rfl
theorem vop_guard (d : Option Nat) (i : I) (g : Nat) (w : Bool) : vop x ⟨d, i, some (g, w)⟩ Q K s = if wanted s.t (some (g, w)) = true then vop x ⟨d, i, none⟩ Q K s else K { s with t := put s.t d udf } := by
  unfold vop
  by_cases h : wanted s.t (some (g, w)) = true
  · simp only [h, if_true]; rfl
  · simp only [h, if_false]; rfl
theorem wanted_some (t : Nat → V) (g : Nat) (w c : Bool) (h : t g = .bool c) : wanted t (some (g, w)) = (c == w) := by simp only [wanted, h]
theorem vopR_val (d : Option Nat) (v : V) (h : Hp) : vopR x d Q K s (some (.val v h)) = K { s with t := put s.t d v, h } := rfl
theorem vopR_skip (d : Option Nat) (h : Hp) : vopR x d Q K s (some (.skip h)) = K { s with t := put s.t d udf, h } := rfl
theorem vopR_call (d : Option Nat) (f : FuncId) (args : List V) : vopR x d Q K s (some (.call f args)) = ACalls x f args s.h (cal Q K d s) := rfl
theorem vopR_dfr (d : Option Nat) (f : FuncId) (args : List V) : vopR x d Q K s (some (.dfr f args)) = K { s with t := put s.t d udf, d := (f, args) :: s.d } := rfl
theorem vopR_pan (d : Option Nat) (v : V) : vopR x d Q K s (some (.pan v)) = Q (.pan v) s := rfl
theorem vc_dreg (l : List A) (d : D) : vc x (.dreg l d) Q s = vD x l Q d s := rfl
theorem vD_done (l : List A) : vD x l Q .done s = Q .normal s := rfl
def anyT (Q : Ex → St → Prop) : Ex → St → Prop := fun e s => ∀ t, Q e { s with t }
def nth (l : List A) (i : Nat) : Option A := l[i]?
theorem nth_zero (a : A) (l : List A) : nth (a :: l) 0 = some a := rfl
theorem nth_succ (a : A) (l : List A) (n : Nat) : nth (a :: l) (n + 1) = nth l n := rfl
def vDo (l : List A) (Q : Ex → St → Prop) (r : D) (s : St) : Option A → Prop
  | some b => vop x b (anyT Q) (vD x l Q r) s
  | none => False
theorem vDo_some (l : List A) (r : D) (b : A) : vDo x l Q r s (some b) = vop x b (anyT Q) (vD x l Q r) s := rfl
theorem vD_free (l : List A) (i : Nat) (r : D) : vD x l Q (.free i r) s = vDo x l Q r s (nth l i) := by
  simp only [vD, nth]
  cases l[i]? <;> rfl
theorem vD_cho (l : List A) (i : Nat) (r o : D) : vD x l Q (.cho i r o) s = (vDo x l Q r s (nth l i) ∧ vD x l Q o s) := by
  simp only [vD, nth]
  cases l[i]? <;> rfl
theorem vD_nope (l : List A) : vD x l Q .nope s = True := rfl
theorem anyT_pan (v : V) : anyT Q (.pan v) s = ∀ t, Q (.pan v) { s with t } := rfl
theorem vc_loop {c : C} (I : Nat → St → Prop) (n : Nat) (hI : I n s) (h : ∀ n s, I n s → vc x c (rnd I n Q) s) : vc x (.loop c) Q s := ⟨I, ⟨n, hI⟩, h⟩
end

/-- A call, by what is shown of it. -/
theorem callR {f : FuncId} {args : List V} {h : Hp} {Q : Ex → St → Prop} {K : St → Prop} {d : Option Nat} {s : St} {R : Res → Hp → Prop} (H : ACalls x f args h R) (hr : ∀ r h', R r h' → cal Q K d s r h') : ACalls x f args h (cal Q K d s) := H.mono hr

theorem post_normal (F : Fun) (R : Res → Hp → Prop) (s : St) : post F R .normal s = (s.d = [] ∧ ∃ v, resV F.rs s.t s.h = some v ∧ R (.ret v) s.h) := rfl
theorem post_ret (F : Fun) (R : Res → Hp → Prop) (s : St) : post F R .ret s = (s.d = [] ∧ ∃ v, resV F.rs s.t s.h = some v ∧ R (.ret v) s.h) := rfl
theorem post_pan (F : Fun) (R : Res → Hp → Prop) (v : V) (s : St) : post F R (.pan v) s = (s.d = [] ∧ R (.pan v) s.h) := rfl
theorem resV_one (a : Nat) (t : Nat → V) (h : Hp) : resV [.t a] t h = some (t a) := rfl
theorem resV_two (a b : Nat) (t : Nat → V) (h : Hp) : resV [.t a, .t b] t h = some (.tup [t a, t b]) := rfl
theorem resV_three (a b c : Nat) (t : Nat → V) (h : Hp) : resV [.t a, .t b, .t c] t h = some (.tup [t a, t b, t c]) := rfl
theorem resV_four (a b c d : Nat) (t : Nat → V) (h : Hp) : resV [.t a, .t b, .t c, .t d] t h = some (.tup [t a, t b, t c, t d]) := rfl
theorem resV_nil (t : Nat → V) (h : Hp) : resV [] t h = some (.tup []) := rfl
theorem ev_t (n : Nat) (t : Nat → V) : O.ev x t (.t n) = t n := rfl
theorem ev_k (v : V) (t : Nat → V) : O.ev x t (.k v) = v := rfl
theorem evs_nil (t : Nat → V) : evs x t [] = [] := rfl
theorem evs_cons (t : Nat → V) (o : O) (l : List O) : evs x t (o :: l) = o.ev x t :: evs x t l := rfl
end

/-- What is left behind a body that defers nothing. -/
def pst (rs : List RV) (R : Res → Hp → Prop) : Ex → St → Prop
  | .normal, s => s.d = [] ∧ ∃ v, resV rs s.t s.h = some v ∧ R (.ret v) s.h
  | .ret, s => s.d = [] ∧ ∃ v, resV rs s.t s.h = some v ∧ R (.ret v) s.h
  | .pan v, s => s.d = [] ∧ R (.pan v) s.h
  | .exit _, _ => False
theorem post_pst (F : Fun) (R : Res → Hp → Prop) : post F R = pst F.rs R := by
  funext e s
  cases e <;> rfl
theorem pst_normal (rs : List RV) (R : Res → Hp → Prop) (s : St) : pst rs R .normal s = (s.d = [] ∧ ∃ v, resV rs s.t s.h = some v ∧ R (.ret v) s.h) := rfl
theorem pst_ret (rs : List RV) (R : Res → Hp → Prop) (s : St) : pst rs R .ret s = (s.d = [] ∧ ∃ v, resV rs s.t s.h = some v ∧ R (.ret v) s.h) := rfl
theorem pst_pan (rs : List RV) (R : Res → Hp → Prop) (v : V) (s : St) : pst rs R (.pan v) s = (s.d = [] ∧ R (.pan v) s.h) := rfl

theorem acall {x : X} (hx : XOk x) {f : FuncId} {F : Fun} (hc : ckF x.P f F = true) {args : List V} {h : Hp} (hn : args.length = F.np) {R : Res → Hp → Prop} (hv : vc x F.c (pst F.rs R) { t := start args, h, d := [] }) : ACalls x f args h R :=
  acalls_of hx hc hn (by rw [post_pst]; exact hv)

theorem lenV_str (h : Hp) (s : List UInt8) : lenV h .str (.str s) = some (.int .i64 s.length) := rfl

/-- What is left behind a body that defers. -/
def lvs (x : X) (rs : List RV) (t : Nat → V) (R : Res → Hp → Prop) : List (FuncId × List V) → Option V → Hp → Prop
  | [], none, h => ∃ v, resV rs t h = some v ∧ R (.ret v) h
  | [], some v, h => R (.pan v) h
  | (f, args) :: ds, p, h => ACallsD x f args h p fun rc h' => lvs x rs t R ds (if rc then none else p) h'
def pstD (x : X) (rs : List RV) (R : Res → Hp → Prop) : Ex → St → Prop
  | .normal, s => lvs x rs s.t R s.d none s.h
  | .ret, s => lvs x rs s.t R s.d none s.h
  | .pan v, s => lvs x rs s.t R s.d (some v) s.h
  | .exit _, _ => False
theorem lvs_leave (x : X) (F : Fun) (t : Nat → V) (R : Res → Hp → Prop) : ∀ (ds : List (FuncId × List V)) (p : Option V) (h : Hp), lvs x F.rs t R ds p h = leave x F t R ds p h
  | [], none, h => rfl
  | [], some v, h => rfl
  | (f, args) :: ds, p, h => by
    simp only [lvs, leave]
    congr 1
    funext rc h'
    exact lvs_leave x F t R ds _ h'
theorem acallD {x : X} (hx : XOk x) {f : FuncId} {F : Fun} (hc : ckF x.P f F = true) {args : List V} {h : Hp} (hn : args.length = F.np) {R : Res → Hp → Prop} (hv : vc x F.c (pstD x F.rs R) { t := start args, h, d := [] }) : ACalls x f args h R := by
  refine acalls_of_defers hx hc hn ?_
  have : postD x F R = pstD x F.rs R := by
    funext e s
    cases e <;> simp only [postD, pstD, lvs_leave]
  rw [this]; exact hv
theorem pstD_ret (x : X) (rs : List RV) (R : Res → Hp → Prop) (s : St) : pstD x rs R .ret s = lvs x rs s.t R s.d none s.h := rfl
theorem pstD_normal (x : X) (rs : List RV) (R : Res → Hp → Prop) (s : St) : pstD x rs R .normal s = lvs x rs s.t R s.d none s.h := rfl
theorem pstD_pan (x : X) (rs : List RV) (R : Res → Hp → Prop) (v : V) (s : St) : pstD x rs R (.pan v) s = lvs x rs s.t R s.d (some v) s.h := rfl

attribute [simp] pstD_ret pstD_normal pstD_pan lenV_str vc_dreg vD_done nth_zero nth_succ vDo_some vD_free vD_cho vD_nope anyT_pan vc_skip vc_reg vc_seq vc_block vc_exit vc_ret vc_cond cnd_true cnd_false thn_normal thn_exit thn_ret thn_pan blk_normal blk_exit blk_ret blk_pan rnd_normal rnd_exit rnd_ret rnd_pan cal_ret cal_pan vops_nil vops_cons vop_plain vop_guard
  vopR_val vopR_skip vopR_call vopR_dfr vopR_pan pst_normal pst_ret pst_pan resV_one resV_two resV_three resV_four resV_nil ev_t ev_k evs_nil evs_cons put_some put_none start_cons0 start_succ
  aop_mov aop_new aop_box aop_build aop_mks aop_mksl0 aop_load aop_store aop_nilck aop_bin aop_un aop_cvi aop_s2b aop_b2s aop_mki aop_fad aop_fld aop_idxs aop_ext aop_len aop_lenc aop_app aop_slc_lo aop_slc_hi aop_slc_lohi aop_slc3 bnd_some aop_clr aop_pickV pickV_bool aop_pne aop_toU aop_frU aop_noEsc aop_sld aop_ustr aop_asrt aop_pan aop_call aop_dfr aop_max aop_iad O.isTmp binV intBin

end Go.Vs
