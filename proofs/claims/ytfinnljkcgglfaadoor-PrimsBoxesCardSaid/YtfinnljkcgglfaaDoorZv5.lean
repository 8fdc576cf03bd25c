/- Code is run over plain data, by a function of Lean: what it comes to is what the call comes to. -/
import Derived.Test.YtfinnljkcgglfaaDoorZv4
set_option linter.unusedSimpArgs false
set_option linter.unusedVariables false
namespace Go.Vs
open Go.RowKit
set_option linter.unusedSimpArgs false
set_option linter.unusedVariables false

/-- A state, its temporaries in a list. -/
structure L where
  t : List V
  h : Hp
  d : List (FuncId × List V)

def getT (l : List V) (n : Nat) : V := match l, n with
  | [], _ => udf
  | x :: _, 0 => x
  | _ :: r, n + 1 => getT r n
def setT : List V → Nat → V → Option (List V)
  | [], _, _ => none
  | _ :: r, 0, v => some (v :: r)
  | x :: r, n + 1, v => match setT r n v with
    | some r' => some (x :: r')
    | none => none
def L.st (s : L) : St := { t := getT s.t, h := s.h, d := s.d }
def L.put (s : L) (d : Option Nat) (v : V) (h : Hp) : Option L := match d with
  | none => some { s with h }
  | some d => match setT s.t d v with
    | some t => some { s with t, h }
    | none => none

theorem setT_spec : ∀ (l : List V) (d : Nat) (v : V) (l' : List V), setT l d v = some l' → ∀ n, getT l' n = if n = d then v else getT l n
  | [], d, v, l', h, n => by simp [setT] at h
  | x :: r, 0, v, l', h, n => by
    simp only [setT, Option.some.injEq] at h
    subst h
    cases n <;> simp [getT]
  | x :: r, d + 1, v, l', h, n => by
    simp only [setT] at h
    split at h
    · rename_i r' hr
      cases h
      cases n with
      | zero => simp [getT]
      | succ n => simp only [getT, setT_spec r d v r' hr n, Nat.succ_eq_add_one, Nat.add_right_cancel_iff]
    · cases h

theorem L.put_st {s s' : L} {d : Option Nat} {v : V} {h : Hp} (e : s.put d v h = some s') : s'.st = { s.st with t := Vs.put s.st.t d v, h } := by
  cases d with
  | none => simp only [L.put, Option.some.injEq] at e; subst e; rfl
  | some d =>
    simp only [L.put] at e
    split at e
    · rename_i t ht
      cases e
      simp only [L.st, Vs.put]
      congr 1
      funext n
      exact setT_spec _ _ _ _ ht n
    · cases e

abbrev CF := FuncId → List V → Hp → Option (Res × Hp)

/-- One operation. -/
def evOp (x : X) (cf : CF) (o : A) (s : L) : Option (Ex × L) :=
  match wanted (getT s.t) o.g with
  | true => match aop x (getT s.t) s.h o.i with
    | some (.val v h) => match s.put o.dst v h with
      | some s' => some (.normal, s')
      | none => none
    | some (.skip h) => match s.put o.dst udf h with
      | some s' => some (.normal, s')
      | none => none
    | some (.call f args) => match cf f args s.h with
      | some (.ret v, h) => match s.put o.dst v h with
        | some s' => some (.normal, s')
        | none => none
      | some (.pan v, h) => some (.pan v, { s with h })
      | none => none
    | some (.dfr f args) => match s.put o.dst udf s.h with
      | some s' => some (.normal, { s' with d := (f, args) :: s.d })
      | none => none
    | some (.pan v) => some (.pan v, s)
    | none => none
  | false => match s.put o.dst udf s.h with
    | some s' => some (.normal, s')
    | none => none

def nthA : List A → Nat → Option A
  | [], _ => none
  | x :: _, 0 => some x
  | _ :: r, n + 1 => nthA r n

theorem nthA_eq : ∀ (l : List A) (n : Nat), nthA l n = l[n]?
  | [], n => by simp [nthA]
  | x :: r, 0 => rfl
  | x :: r, n + 1 => by simp [nthA, nthA_eq r n]

/-- Calls on plain data. -/
abbrev PF := FuncId → List V → Option Res

def memN : Nat → List Nat → Bool
  | _, [] => false
  | n, a :: r => n == a || memN n r

def isCall : I → Bool
  | .call .. => true
  | .inv .. => true
  | _ => false

def evOpP (x : X) (pf : PF) (o : A) (t : Nat → V) (h : Hp) : Option V :=
  match wanted t o.g with
  | true => match aop x t h o.i with
    | some (.val v _) => some v
    | some (.call f args) => match pf f args with
      | some (.ret v) => some v
      | _ => none
    | _ => none
  | false => some udf

/-- What an operation comes to in whatever heap. -/
def indepV (x : X) (pf : PF) (t : Nat → V) (i : I) : Option V := match i.silent with
  | true => match aop x t [] i with
    | some (.val v _) => some v
    | _ => none
  | false => match i with
    | .load n ag a => match a.ev x t with
      | .fp cs o => (sub cs o n).bind (asV ag)
      | _ => none
    | i => match aop x t [] i with
      | some (.call f args) => match pf f args with
        | some (.ret v) => some v
        | _ => none
      | _ => none

mutual
def beqV : V → V → Bool
  | .bool a, .bool b => a == b
  | .int k a, .int j b => decide (k = j) && decide (a = b)
  | .str a, .str b => decide (a = b)
  | .nptr, .nptr => true
  | .ptr a o, .ptr b p => a == b && o == p
  | .fp cs o, .fp ds p => beqVs cs ds && o == p
  | .nsl, .nsl => true
  | .sl b off len cap ex es ag, .sl b' off' len' cap' ex' es' ag' => b == b' && off == off' && len == len' && cap == cap' && ex == ex' && es == es' && ag == ag'
  | .lst ex xs, .lst ex' ys => ex == ex' && beqVs xs ys
  | .nmap, .nmap => true
  | .map a, .map b => a == b
  | .fn (.func f) a b, .fn (.func g) c d => f == g && beqVs a c && beqVs b d
  | .nfn, .nfn => true
  | .ifc t v, .ifc u w => t == u && beqV v w
  | .nifc, .nifc => true
  | .agg cs, .agg ds => beqVs cs ds
  | .tup cs, .tup ds => beqVs cs ds
  | _, _ => false
def beqVs : List V → List V → Bool
  | [], [] => true
  | x :: r, y :: q => beqV x y && beqVs r q
  | _, _ => false
end

/-- What a steady operation comes to; 'true': in whatever heap. -/
def evSt (x : X) (pf : PF) (o : A) (s : L) : Option (V × Bool) := match o.i.reads || isCall o.i with
  | false => none
  | true => match wanted (getT s.t) o.g with
    | false => some (udf, true)
    | true => match indepV x pf (getT s.t) o.i with
      | some v => some (v, true)
      | none => match evOpP x pf o (getT s.t) s.h with
        | some v => some (v, false)
        | none => none

/-- This place is not looked at or filled by those. -/
def apartN (ops : List A) (d : Option Nat) : List (Nat × Bool) → Bool
  | [] => true
  | j :: r => (match d with
    | none => true
    | some d => match nthA ops j.1 with
      | some b => !memN d b.looks && (match b.dst with | some e => !(e == d) | none => true)
      | none => false) && apartN ops d r

def seenIn : Nat → List (Nat × Bool) → Bool
  | _, [] => false
  | n, j :: r => n == j.1 || seenIn n r

def allSeen : List Nat → List (Nat × Bool) → Bool
  | [], _ => true
  | n :: r, sn => seenIn n sn && allSeen r sn

/-- It comes to the same still. -/
def evAgain (x : X) (pf : PF) (ops : List A) (s : L) (j : Nat) : Bool := match nthA ops j with
  | some b => match b.dst with
    | some e => match b.i.reads || isCall b.i with
      | true => match evOpP x pf b (getT s.t) s.h with
        | some v => beqV v (getT s.t e)
        | none => false
      | false => false
    | none => false
  | none => false

/-- Those of 're' come to the same still; the others are let go. -/
def keepSn (x : X) (pf : PF) (ops : List A) (re : List Nat) (s : L) : List (Nat × Bool) → Option (List (Nat × Bool))
  | [] => some []
  | j :: r => match memN j.1 re with
    | false => keepSn x pf ops re s r
    | true => match j.2 || evAgain x pf ops s j.1 with
      | true => match keepSn x pf ops re s r with
        | some l => some (j :: l)
        | none => none
      | false => none

def seenOf (re : List Nat) : List (Nat × Bool) → List (Nat × Bool)
  | [] => []
  | j :: r => match memN j.1 re with
    | true => j :: seenOf re r
    | false => seenOf re r

def tellE (ops : List A) : List Nat → L → Option L
  | [], s => some s
  | a :: r, s => match nthA ops a with
    | some ⟨some d, .new z ty, _⟩ => match s.put (some d) (.ptr s.h.length 0) (s.h ++ [some (.cells z ty)]) with
      | some s' => tellE ops r s'
      | none => none
    | _ => none

def apartT (ops : List A) (sn : List (Nat × Bool)) : List Nat → Bool
  | [] => true
  | a :: r => (match nthA ops a with
    | some o => apartN ops o.dst sn
    | none => false) && apartT ops sn r

def evLin (x : X) (cf : CF) (pf : PF) (ops : List A) (L0 : List Nat) : List (Nat × Option (List Nat)) → List (Nat × Bool) → L → Option (Ex × L)
  | [], _, s => some (.normal, s)
  | (i, none) :: r, sn, s => match nthA ops i with
    | none => none
    | some o => match o.dst with
      | none => none
      | some d => match evSt x pf o s with
        | none => none
        | some (v, fl) => match s.put o.dst v s.h with
          | none => none
          | some s' => match apartN ops o.dst sn && !memN d o.looks with
            | true => evLin x cf pf ops L0 r ((i, fl) :: sn) s'
            | false => none
  | (i, some re) :: r, sn, s => match nthA ops i with
    | none => none
    | some o => match nd ops L0 i, evSt x pf o s with
      | [], some (v, _) => match s.put o.dst v s.h with
        | none => none
        | some s' => match apartN ops o.dst sn && allSeen re sn with
          | true => evLin x cf pf ops L0 r sn s'
          | false => none
      | ns, _ => match tellE ops ns s with
        | none => none
        | some s1 => match evOp x cf o s1 with
          | some (.normal, s') => match apartN ops o.dst (seenOf re sn) && allSeen re sn && apartT ops (seenOf re sn) ns with
            | true => match keepSn x pf ops re s' (seenOf re sn) with
              | some sn' => evLin x cf pf ops L0 r sn' s'
              | none => none
            | false => none
          | _ => none

/-- A region that draws its order. -/
def evD (x : X) (cf : CF) (pf : PF) (ops : List A) : D → L → Option (Ex × L)
  | .done, s => some (.normal, s)
  | .lin L0 l, s => evLin x cf pf ops L0 l [] s
  | _, _ => none

/-- What calls come to. -/
def Sd (x : X) (cf : CF) : Prop := ∀ f args h r h', cf f args h = some (r, h') → ACalls x f args h fun a b => a = r ∧ b = h'
def Sp (x : X) (pf : PF) : Prop := ∀ f args r, pf f args = some r → ∀ h, ACalls x f args h fun a b => a = r ∧ b = h

section
variable {x : X} {cf : CF} {pf : PF}

theorem evOp_sound (hcf : Sd x cf) {o : A} {s s' : L} {e : Ex} (he : evOp x cf o s = some (e, s')) {Q : Ex → St → Prop} {K : St → Prop} (hK : e = .normal → K s'.st) (hQ : ∀ v, e = .pan v → Q (.pan v) s'.st) : vop x o Q K s.st := by
  unfold evOp at he
  unfold vop
  split at he
  · rename_i hw
    have hw' : wanted s.st.t o.g = true := hw
    rw [if_pos hw']
    have e1 : aop x s.st.t s.st.h o.i = aop x (getT s.t) s.h o.i := rfl
    rw [e1]
    split at he
    · rename_i v h ha
      rw [ha]
      split at he
      · rename_i s1 hp; cases he; have := hK rfl; rw [L.put_st hp] at this; exact this
      · cases he
    · rename_i h ha
      rw [ha]
      split at he
      · rename_i s1 hp; cases he; have := hK rfl; rw [L.put_st hp] at this; exact this
      · cases he
    · rename_i f args ha
      rw [ha]
      split at he
      · rename_i v h hc
        refine (hcf _ _ _ _ _ hc).mono ?_
        rintro r h' ⟨rfl, rfl⟩
        split at he
        · rename_i s1 hp; cases he; have := hK rfl; rw [L.put_st hp] at this; exact this
        · cases he
      · rename_i v h hc
        refine (hcf _ _ _ _ _ hc).mono ?_
        rintro r h' ⟨rfl, rfl⟩
        cases he
        exact hQ v rfl
      · cases he
    · rename_i f args ha
      rw [ha]
      split at he
      · rename_i s1 hp
        cases he
        have := hK rfl
        have h2 := L.put_st hp
        have e2 : (L.st { s1 with d := (f, args) :: s.d }) = { s1.st with d := (f, args) :: s.d } := rfl
        rw [e2, h2] at this
        exact this
      · cases he
    · rename_i v ha
      rw [ha]
      cases he
      exact hQ v rfl
    · cases he
  · rename_i hw
    have hw' : ¬ wanted s.st.t o.g = true := by rw [show wanted s.st.t o.g = false from hw]; simp
    rw [if_neg hw']
    split at he
    · rename_i s1 hp; cases he; have := hK rfl; rw [L.put_st hp] at this; exact this
    · cases he

theorem memN_iff : ∀ {n : Nat} {l : List Nat}, memN n l = true ↔ n ∈ l
  | n, [] => by simp [memN]
  | n, a :: r => by simp [memN, memN_iff (l := r)]
theorem evOpP_val (hpf : Sp x pf) {o : A} (hst : (o.i.reads || isCall o.i) = true) {t : Nat → V} {h : Hp} {v : V} (he : evOpP x pf o t h = some v) : Val x o t h v := by
  unfold evOpP at he
  split at he
  · rename_i hw
    refine ⟨fun _ => ?_, fun h => (by rw [hw] at h; cases h)⟩
    split at he
    · rename_i v' h' ha
      cases he
      simp only [Bool.or_eq_true] at hst
      rcases hst with hr | hc
      · obtain ⟨v2, e⟩ := reads_eq hr ha
        cases e
        exact .inl ha
      · exfalso
        unfold isCall at hc
        split at hc
        · rename_i f args hi
          rw [hi] at ha
          simp only [aop] at ha
          cases hcv : callV (O.ev x t f) (evs x t args) <;> rw [hcv] at ha <;> simp at ha
        · rename_i r m args hi
          rw [hi] at ha
          simp only [aop] at ha
          repeat' split at ha
          all_goals first
            | cases ha
            | (rename_i cs _ ; revert ha; cases cs[_]? <;> simp)
            | skip
          all_goals (simp at ha)
        · cases hc
    · rename_i f args ha
      split at he
      · rename_i v' hp
        cases he
        exact .inr ⟨f, args, ha, hpf f args _ hp h⟩
      · cases he
    · cases he
  · rename_i hw
    cases he
    exact ⟨fun h => (by rw [hw] at h; cases h), fun _ => rfl⟩

theorem appV_nocall {h : Hp} {es bt : Nat} {ag : Bool} {ty : Option TypeId} {s : V} {n : Nat} {ys : List V} {f : FuncId} {args : List V} (ha : appV h es bt ag ty s n ys = some (.call f args)) : False := by
  unfold appV at ha
  repeat' split at ha
  all_goals first
    | (cases ha; done)
    | (simp [newSl] at ha; done)
    | (obtain ⟨_, _, hh⟩ := Option.map_eq_some_iff.1 ha; cases hh; done)

theorem aopJ_nocall {t : Nat → V} {h : Hp} {k : J} {f : FuncId} {args : List V} (ha : aopJ x t h k = some (.call f args)) : False := by
  cases k <;> simp only [aopJ] at ha <;> revert ha <;> (repeat' split) <;> (intro ha; cases ha)

theorem aop_call_heap {t : Nat → V} {h : Hp} {i : I} {f : FuncId} {args : List V} (ha : aop x t h i = some (.call f args)) (g : Hp) : aop x t g i = some (.call f args) := by
  cases i
  case call a l => exact ha
  case inv r m l => exact ha
  case j k => exact (aopJ_nocall ha).elim
  all_goals
    exfalso
    simp only [aop] at ha
    first
      | (cases ha; done)
      | (simp [Option.map_eq_some_iff] at ha; done)
      | (revert ha; repeat' split
         all_goals (intro ha; first | (cases ha; done) | (simp [Option.map_eq_some_iff, newSl] at ha; done) | skip))
  all_goals first
    | (obtain ⟨_, _, hh⟩ := Option.map_eq_some_iff.1 ha; cases hh; done)
    | exact appV_nocall ha

theorem indepV_val (hpf : Sp x pf) {o : A} {t : Nat → V} {v : V} (hw : wanted t o.g = true) (he : indepV x pf t o.i = some v) (h : Hp) : Val x o t h v := by
  refine ⟨fun _ => ?_, fun h => by rw [hw] at h; cases h⟩
  unfold indepV at he
  split at he
  · rename_i hs
    split at he
    · rename_i v' h' ha
      cases he
      refine .inl ?_
      rw [silent_eq hs h, ha]
      rfl
    · cases he
  · split at he
    · rename_i n ag a hi
      split at he
      · rename_i cs off ha
        refine .inl ?_
        rw [hi]
        simp only [aop, ha, rd]
        rw [he]
        rfl
      · cases he
    · split at he
      · rename_i f args ha
        split at he
        · rename_i v' hp
          cases he
          exact .inr ⟨f, args, aop_call_heap ha h, hpf f args _ hp h⟩
        · cases he
      · cases he

/-- What is known of those that came. -/
def Sn (x : X) (ops : List A) (sn : List (Nat × Bool)) (s : St) : Prop := ∀ j ∈ sn, ∃ o e, ops[j.1]? = some o ∧ o.dst = some e ∧ Val x o s.t s.h (s.t e) ∧ (j.2 = true → ∀ h, Val x o s.t h (s.t e))

theorem apartN_spec {ops : List A} {d : Nat} : ∀ {sn : List (Nat × Bool)}, apartN ops (some d) sn = true → ∀ j ∈ sn, ∀ b, ops[j.1]? = some b → d ∉ b.looks ∧ b.dst ≠ some d
  | [], _, j, hj, b, hb => by cases hj
  | k :: r, h, j, hj, b, hb => by
    simp only [apartN, Bool.and_eq_true, nthA_eq] at h
    rcases List.mem_cons.1 hj with rfl | hj
    · have h1 := h.1
      rw [hb] at h1
      simp only [Bool.and_eq_true, Bool.not_eq_true', ← Bool.not_eq_true, memN_iff] at h1
      refine ⟨h1.1, fun hd => ?_⟩
      rw [hd] at h1
      simp at h1
    · exact apartN_spec h.2 j hj b hb

theorem Sn.put {ops : List A} {sn : List (Nat × Bool)} {s : St} (H : Sn x ops sn s) {d : Option Nat} (h : apartN ops d sn = true) (v : V) : Sn x ops sn { s with t := Vs.put s.t d v } := fun j hj => by
  obtain ⟨o, e, h1, h2, h3, h4⟩ := H j hj
  cases d with
  | none => exact ⟨o, e, h1, h2, h3, h4⟩
  | some d =>
    obtain ⟨g1, g2⟩ := apartN_spec h j hj o h1
    have e1 : Vs.put s.t (some d) v e = s.t e := put_ne fun hh => g2 (by rw [h2, ← hh])
    have e2 : ∀ n ∈ o.looks, s.t n = Vs.put s.t (some d) v n := fun n hn => (put_ne fun hh => g1 (by cases hh; exact hn)).symm
    refine ⟨o, e, h1, h2, ?_, fun hf h => ?_⟩
    · show Val x o _ s.h (Vs.put s.t (some d) v e)
      rw [e1]
      exact h3.congr e2
    · show Val x o _ h (Vs.put s.t (some d) v e)
      rw [e1]
      exact (h4 hf h).congr e2

mutual
theorem beqV_eq : ∀ (a b : V), beqV a b = true → a = b
  | .bool a, b, h => by cases b <;> simp_all [beqV]
  | .int k a, b, h => by cases b <;> simp_all [beqV]
  | .str a, b, h => by cases b <;> simp_all [beqV]
  | .nptr, b, h => by cases b <;> simp_all [beqV]
  | .ptr a o, b, h => by cases b <;> simp_all [beqV]
  | .fp cs o, b, h => by
    cases b <;> simp only [beqV, Bool.and_eq_true, beq_iff_eq, Bool.false_eq_true] at h
    rw [beqVs_eq cs _ h.1, h.2]
  | .nsl, b, h => by cases b <;> simp_all [beqV]
  | .sl .., b, h => by cases b <;> simp_all [beqV]
  | .lst ex xs, b, h => by
    cases b <;> simp only [beqV, Bool.and_eq_true, beq_iff_eq, Bool.false_eq_true] at h
    rw [beqVs_eq xs _ h.2, h.1]
  | .nmap, b, h => by cases b <;> simp_all [beqV]
  | .map a, b, h => by cases b <;> simp_all [beqV]
  | .fn f a c, b, h => by
    cases b with
    | fn g a' c' =>
      cases f <;> cases g <;> simp only [beqV, Bool.and_eq_true, beq_iff_eq, Bool.false_eq_true] at h
      rw [h.1.1, beqVs_eq a _ h.1.2, beqVs_eq c _ h.2]
    | _ => cases f <;> simp [beqV] at h
  | .nfn, b, h => by cases b <;> simp_all [beqV]
  | .ifc t v, b, h => by
    cases b <;> simp only [beqV, Bool.and_eq_true, beq_iff_eq, Bool.false_eq_true] at h
    rw [beqV_eq v _ h.2, h.1]
  | .nifc, b, h => by cases b <;> simp_all [beqV]
  | .agg cs, b, h => by
    cases b <;> simp only [beqV, Bool.and_eq_true, beq_iff_eq, Bool.false_eq_true] at h
    rw [beqVs_eq cs _ h]
  | .tup cs, b, h => by
    cases b <;> simp only [beqV, Bool.and_eq_true, beq_iff_eq, Bool.false_eq_true] at h
    rw [beqVs_eq cs _ h]
theorem beqVs_eq : ∀ (a b : List V), beqVs a b = true → a = b
  | [], b, h => by cases b <;> simp_all [beqVs]
  | x :: r, b, h => by
    cases b with
    | nil => simp [beqVs] at h
    | cons y q =>
      simp only [beqVs, Bool.and_eq_true] at h
      rw [beqV_eq x y h.1, beqVs_eq r q h.2]
end

theorem evSt_val (hpf : Sp x pf) {o : A} {s : L} {v : V} {fl : Bool} (he : evSt x pf o s = some (v, fl)) : Val x o (getT s.t) s.h v ∧ (fl = true → ∀ h, Val x o (getT s.t) h v) := by
  unfold evSt at he
  split at he
  · cases he
  · rename_i hr
    split at he
    · rename_i hw
      cases he
      have : ∀ h, Val x o (getT s.t) h udf := fun h => ⟨fun hh => (by rw [hw] at hh; cases hh), fun _ => rfl⟩
      exact ⟨this _, fun _ => this⟩
    · rename_i hw
      split at he
      · rename_i v' hi
        cases he
        exact ⟨indepV_val hpf hw hi _, fun _ => indepV_val hpf hw hi⟩
      · split at he
        · rename_i v' hv
          cases he
          exact ⟨evOpP_val hpf hr hv, fun h => (by cases h)⟩
        · cases he

theorem evAgain_val (hpf : Sp x pf) {ops : List A} {s : L} {j : Nat} (h : evAgain x pf ops s j = true) : ∃ o e, ops[j]? = some o ∧ o.dst = some e ∧ Val x o (getT s.t) s.h (getT s.t e) := by
  unfold evAgain at h
  rw [nthA_eq] at h
  cases hb : ops[j]? with
  | none => rw [hb] at h; cases h
  | some b =>
    rw [hb] at h
    simp only at h
    cases he : b.dst with
    | none => rw [he] at h; cases h
    | some e =>
      rw [he] at h
      simp only at h
      split at h
      · rename_i hr
        split at h
        · rename_i v hv
          exact ⟨b, e, rfl, he, by rw [← beqV_eq _ _ h]; exact evOpP_val hpf hr hv⟩
        · cases h
      · cases h

theorem tellE_st {ops : List A} : ∀ {l : List Nat} {s s' : L}, tellE ops l s = some s' → s'.st = tell ops l s.st
  | [], s, s', h => by simp only [tellE, Option.some.injEq] at h; subst h; rfl
  | a :: r, s, s', h => by
    simp only [tellE, nthA_eq] at h
    split at h
    · rename_i d z ty g ha
      split at h
      · rename_i s1 h1
        rw [tellE_st h, L.put_st h1]
        simp only [tell, ha, tell1]
        rfl
      · cases h
    · cases h

theorem seenIn_spec : ∀ {n : Nat} {sn : List (Nat × Bool)}, seenIn n sn = true → ∃ fl, (n, fl) ∈ sn
  | n, [], h => by simp [seenIn] at h
  | n, j :: r, h => by
    simp only [seenIn, Bool.or_eq_true, beq_iff_eq] at h
    rcases h with rfl | h
    · exact ⟨j.2, by simp⟩
    · obtain ⟨fl, h⟩ := seenIn_spec h
      exact ⟨fl, List.mem_cons_of_mem _ h⟩

theorem seenOf_iff {re : List Nat} : ∀ {sn : List (Nat × Bool)} {j : Nat × Bool}, j ∈ seenOf re sn ↔ j ∈ sn ∧ j.1 ∈ re
  | [], j => by simp [seenOf]
  | k :: r, j => by
    simp only [seenOf]
    split
    · rename_i h
      rw [List.mem_cons, List.mem_cons, seenOf_iff]
      constructor
      · rintro (rfl | h')
        · exact ⟨.inl rfl, memN_iff.1 h⟩
        · exact ⟨.inr h'.1, h'.2⟩
      · rintro ⟨rfl | h1, h2⟩
        · exact .inl rfl
        · exact .inr ⟨h1, h2⟩
    · rename_i h
      rw [List.mem_cons, seenOf_iff]
      constructor
      · exact fun h' => ⟨.inr h'.1, h'.2⟩
      · rintro ⟨rfl | h1, h2⟩
        · rw [memN_iff.2 h2] at h; cases h
        · exact ⟨h1, h2⟩

theorem allSeen_spec : ∀ {l : List Nat} {sn : List (Nat × Bool)}, allSeen l sn = true → ∀ n ∈ l, ∃ fl, (n, fl) ∈ sn
  | [], _, _, n, hn => by cases hn
  | a :: r, sn, h, n, hn => by
    simp only [allSeen, Bool.and_eq_true] at h
    rcases List.mem_cons.1 hn with rfl | hn
    · exact seenIn_spec h.1
    · exact allSeen_spec h.2 n hn

theorem keepSn_spec {ops : List A} {re : List Nat} {s : L} : ∀ {sn sn' : List (Nat × Bool)}, keepSn x pf ops re s sn = some sn' → (∀ j ∈ sn', j ∈ sn ∧ (j.2 = true ∨ evAgain x pf ops s j.1 = true)) ∧ ∀ j ∈ sn, j.1 ∈ re → j ∈ sn'
  | [], sn', h => by simp only [keepSn, Option.some.injEq] at h; subst h; simp
  | k :: r, sn', h => by
    simp only [keepSn] at h
    split at h
    · rename_i hm
      obtain ⟨h1, h2⟩ := keepSn_spec h
      refine ⟨fun j hj => ⟨List.mem_cons_of_mem _ (h1 j hj).1, (h1 j hj).2⟩, fun j hj hr => ?_⟩
      rcases List.mem_cons.1 hj with rfl | hj
      · rw [memN_iff.2 hr] at hm; cases hm
      · exact h2 j hj hr
    · split at h
      · rename_i hk
        split at h
        · rename_i l hl
          cases h
          obtain ⟨h1, h2⟩ := keepSn_spec hl
          refine ⟨fun j hj => ?_, fun j hj hr => ?_⟩
          · rcases List.mem_cons.1 hj with rfl | hj
            · exact ⟨by simp, by simpa using hk⟩
            · exact ⟨List.mem_cons_of_mem _ (h1 j hj).1, (h1 j hj).2⟩
          · rcases List.mem_cons.1 hj with rfl | hj
            · exact List.mem_cons_self ..
            · exact List.mem_cons_of_mem _ (h2 j hj hr)
        · cases h
      · cases h

theorem evOp_t {o : A} {s s' : L} (he : evOp x cf o s = some (.normal, s')) : ∃ v, s'.st.t = Vs.put s.st.t o.dst v := by
  unfold evOp at he
  repeat' split at he
  all_goals first
    | (cases he; done)
    | (rename_i s1 hp; simp only [Option.some.injEq, Prod.mk.injEq, true_and] at he; subst he; exact ⟨_, by have := L.put_st hp; simp only [L.st] at this ⊢; injection this⟩)

/-- .. in whatever heap. -/
def Ind (x : X) (ops : List A) (sn : List (Nat × Bool)) (t : Nat → V) : Prop := ∀ j ∈ sn, j.2 = true → ∃ o e, ops[j.1]? = some o ∧ o.dst = some e ∧ ∀ h, Val x o t h (t e)

theorem Ind.put {ops : List A} {sn : List (Nat × Bool)} {t : Nat → V} (H : Ind x ops sn t) {d : Option Nat} (h : apartN ops d sn = true) (v : V) : Ind x ops sn (Vs.put t d v) := fun j hj hf => by
  obtain ⟨o, e, h1, h2, h4⟩ := H j hj hf
  cases d with
  | none => exact ⟨o, e, h1, h2, h4⟩
  | some d =>
    obtain ⟨g1, g2⟩ := apartN_spec h j hj o h1
    have e1 : Vs.put t (some d) v e = t e := put_ne fun hh => g2 (by rw [h2, ← hh])
    refine ⟨o, e, h1, h2, fun h => ?_⟩
    rw [e1]
    exact (h4 h).congr fun n hn => (put_ne fun hh => g1 (by cases hh; exact hn)).symm

theorem Ind.tell {ops : List A} {sn : List (Nat × Bool)} : ∀ {l : List Nat} {s : St}, Ind x ops sn s.t → apartT ops sn l = true → Ind x ops sn (tell ops l s).t
  | [], s, H, _ => H
  | a :: r, s, H, h => by
    simp only [apartT, Bool.and_eq_true, nthA_eq] at h
    obtain ⟨h1, h2⟩ := h
    refine Ind.tell (s := tell1 s ops[a]?) ?_ h2
    cases ha : ops[a]? with
    | none => exact H
    | some o =>
      rw [ha] at h1
      simp only at h1
      unfold tell1
      split
      · rename_i d z ty g hh
        cases hh
        exact H.put h1 _
      · exact H

theorem evLin_sound (hcf : Sd x cf) (hpf : Sp x pf) {ops : List A} {L0 : List Nat} : ∀ (l : List (Nat × Option (List Nat))) (sn : List (Nat × Bool)) (s s' : L) (e : Ex), evLin x cf pf ops L0 l sn s = some (e, s') → Sn x ops sn s.st → ∀ Q : Ex → St → Prop, Q e s'.st → vLin x ops L0 Q l s.st
  | [], sn, s, s', e, he, H, Q, hq => by
    simp only [evLin, Option.some.injEq, Prod.mk.injEq] at he
    obtain ⟨rfl, rfl⟩ := he
    exact hq
  | (i, none) :: r, sn, s, s', e, he, H, Q, hq => by
    simp only [evLin, nthA_eq] at he
    split at he
    · cases he
    · rename_i o ho
      split at he
      · cases he
      · rename_i d hd
        split at he
        · cases he
        · rename_i v fl hv
          split at he
          · cases he
          · rename_i s1 h1
            split at he
            · rename_i hc
              simp only [Bool.and_eq_true, Bool.not_eq_true', ← Bool.not_eq_true, memN_iff] at hc
              obtain ⟨hv1, hv2⟩ := evSt_val hpf hv
              refine ⟨o, v, ho, hv1, ?_⟩
              have hs1 := L.put_st h1
              have h2 := evLin_sound hcf hpf r _ s1 s' e he (by
                rw [hs1]
                intro j hj
                rcases List.mem_cons.1 hj with rfl | hj
                · have e1 : ∀ n ∈ o.looks, s.st.t n = Vs.put s.st.t o.dst v n := fun n hn => (put_ne fun hh => hc.2 (by rw [hd] at hh; cases hh; exact hn)).symm
                  have e2 : Vs.put s.st.t o.dst v d = v := by rw [hd, put_self]
                  refine ⟨o, d, ho, hd, ?_, fun hf h => ?_⟩
                  · show Val x o _ s.h (Vs.put s.st.t o.dst v d)
                    rw [e2]; exact Val.congr e1 hv1
                  · show Val x o _ h (Vs.put s.st.t o.dst v d)
                    rw [e2]; exact Val.congr e1 (hv2 hf h)
                · exact H.put hc.1 v j hj) Q hq
              rw [hs1] at h2
              exact h2
            · cases he
  | (i, some re) :: r, sn, s, s', e, he, H, Q, hq => by
    simp only [evLin, nthA_eq] at he
    split at he
    · cases he
    · rename_i o ho
      refine ⟨o, ho, ?_⟩
      split at he
      · rename_i v fl hnd hv
        rw [hnd]
        split at he
        · cases he
        · rename_i s1 h1
          split at he
          · rename_i hc
            simp only [Bool.and_eq_true] at hc
            have hs1 := L.put_st h1
            have hH : Sn x ops sn s1.st := by rw [hs1]; exact H.put hc.1 v
            refine Val.vop (evSt_val hpf hv).1 ?_
            have hs2 : ({ (tell ops [] s.st) with t := Vs.put (tell ops [] s.st).t o.dst v } : St) = s1.st := hs1.symm
            rw [hs2]
            refine ⟨fun j hj => ?_, evLin_sound hcf hpf r sn s1 s' e he hH Q hq⟩
            obtain ⟨fl', hm⟩ := allSeen_spec hc.2 j hj
            obtain ⟨b, e', g1, g2, g3, _⟩ := hH _ hm
            exact ⟨b, e', g1, g2, g3⟩
          · cases he
      · split at he
        · cases he
        · rename_i s1 h1
          split at he
          · rename_i s2 h2
            split at he
            · rename_i hc
              simp only [Bool.and_eq_true] at hc
              split at he
              · rename_i sn' hk
                obtain ⟨k1, k2⟩ := keepSn_spec hk
                have hInd : Ind x ops (seenOf re sn) s2.st.t := by
                  obtain ⟨v, hv⟩ := evOp_t h2
                  rw [hv, tellE_st h1]
                  refine Ind.put (Ind.tell (fun j hj hf => ?_) hc.2) hc.1.1 v
                  obtain ⟨b, e', g1, g2, _, g4⟩ := H j (seenOf_iff.1 hj).1
                  exact ⟨b, e', g1, g2, g4 hf⟩
                have hH : Sn x ops sn' s2.st := fun j hj => by
                  obtain ⟨m1, m2⟩ := k1 j hj
                  by_cases hf : j.2 = true
                  · obtain ⟨b, e', g1, g2, g3⟩ := hInd j m1 hf
                    exact ⟨b, e', g1, g2, g3 _, fun _ => g3⟩
                  · obtain ⟨b, e', g1, g2, g3⟩ := evAgain_val hpf (m2.resolve_left hf)
                    exact ⟨b, e', g1, g2, g3, fun h => absurd h hf⟩
                rw [← tellE_st h1]
                refine evOp_sound hcf h2 (fun _ => ⟨fun j hj => ?_, evLin_sound hcf hpf r sn' s2 s' e he hH Q hq⟩) (fun v hv => by cases hv)
                obtain ⟨fl', hm⟩ := allSeen_spec hc.1.2 j hj
                obtain ⟨b, e', g1, g2, g3, _⟩ := hH _ (k2 _ (seenOf_iff.2 ⟨hm, hj⟩) hj)
                exact ⟨b, e', g1, g2, g3⟩
              · cases he
            · cases he
          · cases he

theorem evD_sound (hcf : Sd x cf) (hpf : Sp x pf) (ops : List A) (d : D) (s s' : L) (e : Ex) (he : evD x cf pf ops d s = some (e, s')) (Q : Ex → St → Prop) (hq : Q e s'.st) : vD x ops Q d s.st := by
  cases d with
  | done => simp only [evD, Option.some.injEq, Prod.mk.injEq] at he; obtain ⟨rfl, rfl⟩ := he; exact hq
  | lin L0 l => exact evLin_sound hcf hpf l [] s s' e he (fun j hj => by cases hj) Q hq
  | _ => simp [evD] at he

end

/-! ### Deferred functions -/
section
variable {x : X} {cf : CF} {pf : PF}
end

/-! ### Calls -/
/-- The functions' code; those that recover; what is known of calls on plain data. -/
structure Tb where
  f : FuncId → Option Fun
  s : FuncId → Option Fun
  p : FuncId → List V → Option V

mutual
/-- Speaks of no block. -/
def lowB : V → Bool
  | .ptr _ _ => false
  | .sl .. => false
  | .map _ => false
  | .fp cs _ => lowBs cs
  | .lst _ xs => lowBs xs
  | .fn _ a b => lowBs a && lowBs b
  | .ifc _ v => lowB v
  | .agg cs => lowBs cs
  | .tup cs => lowBs cs
  | _ => true
def lowBs : List V → Bool
  | [] => true
  | x :: r => lowB x && lowBs r
end

theorem Low.cells {k : Nat} {y : V} (h : Low k y) : ∀ c ∈ y.cells, Low k c := by
  intro c hc
  cases h
  case agg cs hcs => exact hcs c hc
  all_goals
    simp only [V.cells, List.mem_singleton] at hc
    subst hc
    constructor <;> assumption

mutual
theorem lowB_spec : ∀ v, lowB v = true → Low 0 v
  | .bool b, _ => .bool b
  | .int k n, _ => .int k n
  | .str s, _ => .str s
  | .nptr, _ => .nptr
  | .ptr _ _, h => by simp [lowB] at h
  | .fp cs o, h => .fp cs o (lowBs_spec cs h)
  | .nsl, _ => .nsl
  | .sl .., h => by simp [lowB] at h
  | .lst ex xs, h => .lst ex xs fun c hc => by
    obtain ⟨y, hy, hc⟩ := List.mem_flatMap.1 hc
    exact (lowBs_spec xs h y hy).cells c hc
  | .nmap, _ => .nmap
  | .map _, h => by simp [lowB] at h
  | .fn f a b, h => by
    simp only [lowB, Bool.and_eq_true] at h
    exact .fn f a b (lowBs_spec a h.1) (lowBs_spec b h.2)
  | .nfn, _ => .nfn
  | .ifc t v, h => .ifc t v (lowB_spec v h)
  | .nifc, _ => .nifc
  | .agg cs, h => .agg cs (lowBs_spec cs h)
  | .tup cs, h => .tup cs (lowBs_spec cs h)
theorem lowBs_spec : ∀ l, lowBs l = true → ∀ v ∈ l, Low 0 v
  | [], _, v, hv => by simp at hv
  | x :: r, h, v, hv => by
    simp only [lowBs, Bool.and_eq_true] at h
    rcases List.mem_cons.1 hv with hv | hv
    · rw [hv]; exact lowB_spec x h.1
    · exact lowBs_spec r h.2 v hv
end

def lowR : Res → Bool
  | .ret v => lowB v
  | .pan v => lowB v
theorem lowR_spec {r : Res} (h : lowR r = true) : r.low := by
  cases r <;> exact lowB_spec _ h

section
variable {x : X} {T : Tb} {cf : CF} {pf : PF}

end
end Go.Vs
namespace Go.Vs.K
open Go.Vs
set_option linter.unusedSimpArgs false
set_option linter.unusedVariables false
set_option maxRecDepth 10000

/-- How the heap is turned. -/
inductive Eff where
  | nil
  | push (b : Blk)
  | set (b : Nat) (x : Option Blk)
  | both (b : Nat) (y : Blk)

def Eff.ap (h : Hp) : Eff → Hp
  | .nil => h
  | .push b => h ++ [some b]
  | .set b x => h.set b x
  | .both b y => h.set b none ++ [some y]

inductive RzE where
  | val (v : V) (e : Eff)
  | skip (e : Eff)
  | call (f : FuncId) (args : List V)
  | dfr (f : FuncId) (args : List V)
  | pan (v : V)

def RzE.to (h : Hp) : RzE → Rz
  | .val v e => .val v (e.ap h)
  | .skip e => .skip (e.ap h)
  | .call f l => .call f l
  | .dfr f l => .dfr f l
  | .pan v => .pan v

abbrev Gt := Nat → Option Blk

def rdE (g : Gt) : V → Nat → Option (List V)
  | .ptr b o, n => match g b with
    | some (.cells cs _) => sub cs o n
    | _ => none
  | .fp cs o, n => sub cs o n
  | _, _ => none

def srcE (g : Gt) (es : Nat) : V → Option (Nat × List V)
  | .nsl => some (0, [])
  | .sl b off len _ _ es' _ => if es' = es then (rdE g (.ptr b off) (len * es)).map (len, ·) else none
  | .lst _ xs => if ∀ x ∈ xs, x.cells.length = es then some (xs.length, flat xs) else none
  | .str s => if es = 1 then some (s.length, s.map fun c => .int .u8 c.toNat) else none
  | _ => none

def wrE (g : Gt) (b o : Nat) (xs : List V) : Option Eff := match g b with
  | some (.cells cs ty) => if o + xs.length ≤ cs.length then some (.set b (some (.cells (setAll cs o xs) ty))) else none
  | _ => none

def newSlE (nn : Nat) (n es : Nat) (ag : Bool) (cs : List V) (ty : Option TypeId := none) : RzE := .val (.sl nn 0 n n false es ag) (.push (.cells cs ty))

def btyE (g : Gt) (b : Nat) : Option TypeId := match g b with
  | some (.cells _ ty) => ty
  | _ => none

def appTyE (g : Gt) (ex : Bool) (b off : Nat) (ty : Option TypeId) : Option TypeId := if ex then ty else if off = 0 ∧ btyE g b = ty then ty else none

def appE (g : Gt) (nn : Nat) (es bt : Nat) (ag : Bool) (ty : Option TypeId) (s : V) (n : Nat) (ys : List V) : Option RzE :=
  match s with
  | .nsl => if n = 0 then some (.val .nsl .nil) else if n * bt ≤ room then some (newSlE nn n es ag ys ty) else none
  | .lst ex xs =>
    if n = 0 then some (.val s .nil)
    else if ex = true ∧ (∀ x ∈ xs, x.cells.length = es) ∧ (xs.length + n) * bt ≤ room then some (newSlE nn (xs.length + n) es ag (flat xs ++ ys) ty) else none
  | .sl b off len cap ex es' ag' =>
    if es' ≠ es ∨ ag' ≠ ag then none
    else if len + n ≤ cap then (wrE g b (off + len * es) ys).map (.val (.sl b off (len + n) cap ex es ag))
    else if (len + n) * bt ≤ room then
      match rdE g (.ptr b off) (len * es) with
      | some old => some (match ex with
        | true => newSlE nn (len + n) es ag (old ++ ys) (appTyE g ex b off ty)
        | false => .val (.sl nn 0 (len + n) (len + n) false es ag) (.both b (.cells (old ++ ys) (appTyE g ex b off ty))))
      | none => none
    else none
  | _ => none

def lenE (g : Gt) (q : Q) (v : V) : Option V := match v with
  | .str s => if q = .str then some (.int .i64 s.length) else none
  | .nsl => if q = .slc then some (.int .i64 0) else none
  | .sl _ _ len _ _ _ _ => if q = .slc then some (.int .i64 len) else none
  | .lst _ xs => if q = .slc then some (.int .i64 xs.length) else none
  | .nmap => if q = .map then some (.int .i64 0) else none
  | .map b => if q = .map then (match g b with
    | some (.map es) => some (.int .i64 es.length)
    | _ => none) else none
  | _ => none

def aopJE : J → X → (Nat → V) → Gt → Nat → Option RzE
  | .cap a => fun x t g nn => match a.ev x t with
      | .nsl => some (.val (.int .i64 0) .nil)
      | .sl _ _ _ cap ex _ _ => if ex then some (.val (.int .i64 cap) .nil) else none
      | .lst ex xs => if ex then some (.val (.int .i64 xs.length) .nil) else none
      | _ => none
  | .slw es a hi => fun x t g nn => match a.ev x t, hi.ev x t with
      | .sl b off _ cap _ es' ag, .int _ n => if es' = es ∧ 0 ≤ n ∧ n.toNat ≤ cap then some (.val (.sl b off n.toNat n.toNat false es ag) .nil) else none
      | _, _ => none
  | .mnz ty n => fun x t g nn => match n.ev x t with
      | .int .i64 n => if 0 ≤ n ∧ n ≤ room then some (.val (.sl nn 0 n.toNat n.toNat false 1 false) (.push (.cells [] (some ty)))) else none
      | _ => none
  | .adc a b c => fun x t g nn => match a.ev x t, b.ev x t, c.ev x t with
      | .int .u64 a, .int .u64 b, .int .u64 c => if 0 ≤ c ∧ c ≤ 1 then some (.val (.tup [.int .u64 ((a.toNat + b.toNat + c.toNat) % 2 ^ 64 : Nat), .int .u64 ((a.toNat + b.toNat + c.toNat) / 2 ^ 64 : Nat)]) .nil) else none
      | _, _, _ => none
  | .min3 a b c => fun x t g nn => match a.ev x t, b.ev x t, c.ev x t with
      | .int k a, .int k' b, .int k'' c => if k = k' ∧ k = k'' then some (.val (.int k (if c < (if b < a then b else a) then c else (if b < a then b else a))) .nil) else none
      | _, _, _ => none
  | .mkz es bt ag z l c => fun x t g nn => match l.ev x t, c.ev x t with
      | .int .i64 l, .int .i64 c => if 0 ≤ l ∧ l = c ∧ c * bt ≤ room ∧ c ≤ room then some (.val (.lst true (chunk es ag c.toNat (List.replicate c.toNat z).flatten)) .nil) else none
      | _, _ => none
  | .mkt bt z len ps ty => fun x t g nn => match fillV z (ps.map fun (i, a) => (i * 1, 1, a.ev x t)) with
      | some cs => some (.val (.sl nn 0 len len true 1 false) (.push (.cells cs (some ty))))
      | none => none
  | .apm es bt ag z s n => fun x t g nn => match s.ev x t, n.ev x t with
      | .nsl, .int .i64 n => if 0 < n ∧ n * bt ≤ room then some (.val (.sl nn 0 n.toNat n.toNat false es ag) (.push (.cells (List.replicate n.toNat z).flatten none))) else none
      | _, _ => none
  | .cvb ty a => fun x t g nn => match a.ev x t with
      | .sl b off n c ex es ag => match g b with
        | some (.cells cs (some ty')) => if ty' = ty ∧ cs.length = n ∧ c = n ∧ 0 < n ∧ off = 0 ∧ ex = true ∧ es = 1 ∧ ag = false then some (.val (.lst true (chunk 1 false n cs)) (.set b none)) else none
        | _ => none
      | _ => none

def aopE : I → X → (Nat → V) → Gt → Nat → Option RzE
  | .mov a => fun x t g nn => some (.val (a.ev x t) .nil)
  | .pick c a b => fun x t g nn => match c.ev x t with
      | .bool c => some (.val (if c then a.ev x t else b.ev x t) .nil)
      | _ => none
  | .new z ty => fun x t g nn => some (.val (.ptr nn 0) (.push (.cells z ty)))
  | .box ty a => fun x t g nn => if ∀ c ∈ (a.ev x t).cells, c.one = true then some (.val (.ptr nn 0) (.push (.cells (a.ev x t).cells ty))) else none
  | .build z ps => fun x t g nn => (fillV z (ps.map fun (o, n, a) => (o, n, a.ev x t))).map fun cs => .val (.agg cs) .nil
  | .mks fz es bt ag z len ps => fun x t g nn =>
      match fillV z (ps.map fun (i, a) => (i * es, es, a.ev x t)) with
      | some cs => if fz then some (.val (.lst true (chunk es ag len cs)) .nil) else some (.val (.sl nn 0 len len true es ag) (.push (.cells cs)))
      | none => none
  | .load n ag a => fun x t g nn => ((rdE g (a.ev x t) n).bind (asV ag)).map fun v => .val v .nil
  | .store n a v => fun x t g nn => match a.ev x t with
      | .ptr b o => if (v.ev x t).cells.length = n ∧ (∀ c ∈ (v.ev x t).cells, c.one = true) then (wrE g b o (v.ev x t).cells).map .skip else none
      | _ => none
  | .nilck a => fun x t g nn => match a.ev x t with
      | .ptr b o => some (.val (.ptr b o) .nil)
      | .fp cs o => some (.val (.fp cs o) .nil)
      | .fn (.func f) a b => some (.val (.fn (.func f) a b) .nil)
      | .fn (.method m) a b => if methNil x m a then some (.val (.fn (.method m) a b) .nil) else none
      | .ifc ty v => some (.val (.ifc ty v) .nil)
      | _ => none
  | .bin op q a b => fun x t g nn => (if q = .ifc ∧ a.isTmp = true ∧ b.isTmp = true then none else binV op q (a.ev x t) (b.ev x t)).map fun v => .val v .nil
  | .un op a => fun x t g nn => (unV op (a.ev x t)).map fun v => .val v .nil
  | .cvi k a => fun x t g nn => match a.ev x t with
      | .int _ n => some (.val (.int k (k.wrap n)) .nil)
      | _ => none
  | .cvs a => fun x t g nn => match a.ev x t with
      | .str s => some (.val (.str s) .nil)
      | _ => none
  | .s2b fz a => fun x t g nn => match a.ev x t with
      | .str s => if fz then some (.val (.lst false (s.map fun c => .int .u8 c.toNat)) .nil) else some (newSlE nn s.length 1 false (s.map fun c => .int .u8 c.toNat))
      | _ => none
  | .b2s a => fun x t g nn => if (a.ev x t).isStr = true then none else match srcE g 1 (a.ev x t) with
      | some (_, cs) => if ∀ c ∈ cs, c.isByte = true then some (.val (.str (cs.map fun | .int _ n => UInt8.ofNat n.toNat | _ => 0)) .nil) else none
      | none => none
  | .arrp n es a => fun x t g nn => match a.ev x t with
      | .sl b off len _ _ es' _ => if n ≤ len ∧ es' = es ∧ 0 < n then some (.val (.ptr b off) .nil) else none
      | .lst _ xs => if n ≤ xs.length ∧ 0 < n then some (.val (.fp (flat xs) 0) .nil) else none
      | _ => none
  | .mki ty a => fun x t g nn => some (.val (.ifc ty (a.ev x t)) .nil)
  | .mkf f first cap => fun x t g nn => some (.val (.fn f (evs x t first) (evs x t cap)) .nil)
  | .mkm => fun x t g nn => some (.val (.map nn) (.push (.map [])))
  | .mksl es bt ag z l c => fun x t g nn => match l.ev x t, c.ev x t with
      | .int .i64 l, .int .i64 c => if 0 ≤ l ∧ l ≤ c ∧ c * bt ≤ room ∧ c ≤ room then some (.val (.sl nn 0 l.toNat c.toNat true es ag) (.push (.cells (List.replicate c.toNat z).flatten))) else none
      | _, _ => none
  | .slc st es a lo hi mx => fun x t g nn =>
      if (a.ev x t).isStr ≠ st then none else
      match bnd x t 0 lo, hi.map (fun o => bnd x t 0 (some o)), mx.map (fun o => bnd x t 0 (some o)) with
      | some l, none, none => (slcV es (a.ev x t) l none none).map fun v => .val v .nil
      | some l, some (some u), none => (slcV es (a.ev x t) l (some u) none).map fun v => .val v .nil
      | some l, some (some u), some (some m) => (slcV es (a.ev x t) l (some u) (some m)).map fun v => .val v .nil
      | _, _, _ => none
  | .slca n es ag a lo hi mx => fun x t g nn =>
      match bnd x t 0 lo, bnd x t n hi, bnd x t n mx with
      | some l, some u, some m =>
        if l ≤ u ∧ u ≤ m ∧ m ≤ n then match a.ev x t with
          | .ptr b o => if (rdE g (.ptr b o) (n * es)).isSome then some (.val (.sl b (o + l * es) (u - l) (m - l) true es ag) .nil) else none
          | .fp cs o => (sub cs o (n * es)).map fun c => .val (.lst (u == m) (((chunk es ag n c).take u).drop l)) .nil
          | _ => none
        else none
      | _, _, _ => none
  | .fad off a => fun x t g nn => match a.ev x t with
      | .ptr b o => some (.val (.ptr b (o + off)) .nil)
      | .fp cs o => some (.val (.fp cs (o + off)) .nil)
      | _ => none
  | .fld off n ag a => fun x t g nn => match a.ev x t with
      | .agg cs => ((sub cs off n).bind (asV ag)).map fun v => .val v .nil
      | _ => none
  | .iad es a i => fun x t g nn => match a.ev x t, i.ev x t with
      | .sl b off len _ _ es' _, .int _ i => if es' = es ∧ 0 ≤ i ∧ i < len then some (.val (.ptr b (off + i.toNat * es)) .nil) else none
      | .lst _ xs, .int _ i => if 0 ≤ i ∧ i < xs.length ∧ (xs.getD i.toNat .nptr).cells.length = es then some (.val (.fp (xs.getD i.toNat .nptr).cells 0) .nil) else none
      | _, _ => none
  | .iada len es a i => fun x t g nn => match a.ev x t, i.ev x t with
      | .ptr b o, .int _ i => if 0 ≤ i ∧ i < len then some (.val (.ptr b (o + i.toNat * es)) .nil) else none
      | .fp cs o, .int _ i => if 0 ≤ i ∧ i < len then some (.val (.fp cs (o + i.toNat * es)) .nil) else none
      | _, _ => none
  | .idxs a i => fun x t g nn => match a.ev x t, i.ev x t with
      | .str s, .int _ i => if 0 ≤ i ∧ i < s.length then some (.val (.int .u8 (s.getD i.toNat 0).toNat) .nil) else none
      | _, _ => none
  | .idxa len es ag a i => fun x t g nn => match a.ev x t, i.ev x t with
      | .agg cs, .int _ i => if 0 ≤ i ∧ i < len then ((sub cs (i.toNat * es) es).bind (asV ag)).map fun v => .val v .nil else none
      | _, _ => none
  | .look q zero a i ok => fun x t g nn => match a.ev x t with
      | .nmap => some (.val (if ok then .tup [zero, .bool false] else zero) .nil)
      | .map b => match g b with
        | some (.map es) => (findM q (i.ev x t) es).map fun r => .val (if ok then .tup [r.getD zero, .bool r.isSome] else r.getD zero) .nil
        | _ => none
      | _ => none
  | .upd q m k v => fun x t g nn => match m.ev x t with
      | .map b => match g b with
        | some (.map es) => (putM q (k.ev x t) (v.ev x t) es).map fun es => .skip (.set b (some (.map es)))
        | _ => none
      | _ => none
  | .ment q z m k => fun x t g nn => match m.ev x t with
      | .map b => match g b with
        | some (.map es) => match findM q (k.ev x t) es with
          | some r => (putM q (k.ev x t) (r.getD z) es).map fun es' => .val (.tup [r.getD z, .int .i64 (idxM q (k.ev x t) es)]) (.set b (some (.map es')))
          | none => none
        | _ => none
      | _ => none
  | .ests m i v => fun x t g nn => match m.ev x t, i.ev x t with
      | .map b, .int _ n => match g b with
        | some (.map es) => match es[n.toNat]? with
          | some e => if 0 ≤ n then some (.skip (.set b (some (.map (es.set n.toNat (e.1, v.ev x t)))))) else none
          | none => none
        | _ => none
      | _, _ => none
  | .asrt ty zero a ok => fun x t g nn => match a.ev x t with
      | .ifc u v => if u = ty then some (.val (if ok then .tup [v, .bool true] else v) .nil) else if ok then some (.val (.tup [zero, .bool false]) .nil) else none
      | .nifc => if ok then some (.val (.tup [zero, .bool false]) .nil) else none
      | _ => none
  | .ext a i => fun x t g nn => match a.ev x t with
      | .tup vs => (vs[i]?).map fun v => .val v .nil
      | _ => none
  | .len q a => fun x t g nn => (lenE g q (a.ev x t)).map fun v => .val v .nil
  | .lenc n => fun x t g nn => some (.val (.int .i64 n) .nil)
  | .app es bt ag ty s a => fun x t g nn => match srcE g es (a.ev x t) with
      | some (n, ys) => appE g nn es bt ag ty (s.ev x t) n ys
      | none => none
  | .cpy es d s => fun x t g nn => match srcE g es (s.ev x t) with
      | some (n, ys) => match d.ev x t with
        | .nsl => some (.val (.int .i64 0) .nil)
        | .sl b off len _ _ es' _ => if es' = es then (wrE g b off (ys.take (Min.min n len * es))).map (.val (.int .i64 (Min.min n len : Nat))) else none
        | _ => none
      | none => none
  | .clr z a => fun x t g nn => match a.ev x t with
      | .nsl => some (.val (.tup []) .nil)
      | .sl b off len _ _ es _ => if z.length = es then (if len = 0 then some (.val (.tup []) .nil) else (wrE g b off (List.replicate len z).flatten).map (.val (.tup []))) else none
      | _ => none
  | .max a b => fun x t g nn => match a.ev x t, b.ev x t with
      | .int k a, .int k' b => if k = k' then some (.val (.int k (if b > a then b else a)) .nil) else none
      | _, _ => none
  | .min a b => fun x t g nn => match a.ev x t, b.ev x t with
      | .int k a, .int k' b => if k = k' then some (.val (.int k (if b < a then b else a)) .nil) else none
      | _, _ => none
  | .call f args => fun x t g nn => (callV (f.ev x t) (evs x t args)).map fun (f, l) => .call f l
  | .inv r m args => fun x t g nn => match r.ev x t with
      | .ifc ty v => match x.M ty m with
        | some (f, none) => some (.call f (v :: evs x t args))
        | some (f, some off) => match v with
          | .agg cs => (cs[off]?).map fun c => .call f (c :: evs x t args)
          | _ => none
        | none => none
      | _ => none
  | .dfr f args => fun x t g nn => (callV (f.ev x t) (evs x t args)).map fun (f, l) => .dfr f l
  | .pan a => fun x t g nn => match a.ev x t with
      | .ifc ty v => some (.pan (.ifc ty v))
      | _ => none
  | .recov => fun x t g nn => none
  | .pne a b => fun x t g nn => match a.ev x t, b.ev x t with
      | .ptr b o, .ptr b' o' => if b = b' ∧ o = o' ∧ (g b).isSome = true then some (.val (.bool false) .nil) else none
      | _, _ => none
  | .toU a => fun x t g nn => match a.ev x t with
      | .nptr => some (.val .nptr .nil)
      | .ptr b o => match rdE g (.ptr b o) 1 with
        | some _ => some (.val (.ptr b o) .nil)
        | none => none
      | _ => none
  | .frU ty n a => fun x t g nn => match a.ev x t with
      | .nptr => some (.val .nptr .nil)
      | .ptr b o => match g b with
        | some (.cells cs (some ty')) => if ty' = ty ∧ o = 0 ∧ n ≤ cs.length then some (.val (.ptr b o) .nil) else none
        | _ => none
      | _ => none
  | .noEsc a => fun x t g nn => some (.val (a.ev x t) .nil)
  | .sld a => fun x t g nn => match a.ev x t with
      | .nsl => some (.val .nptr .nil)
      | .sl b off _ cap _ _ _ => if 0 < cap then some (.val (.ptr b off) .nil) else none
      | _ => none
  | .ustr ty p n => fun x t g nn => match p.ev x t, n.ev x t with
      | .nptr, .int .i64 n => if n = 0 then some (.val (.str []) .nil) else none
      | .ptr b o, .int .i64 n => if n = 0 then some (.val (.str []) .nil) else
        match g b with
        | some (.cells cs (some ty')) => if ty' = ty ∧ o = 0 ∧ 0 ≤ n ∧ n ≤ 9223372036854775807 then (match sub cs 0 n.toNat with
          | some l => if ∀ c ∈ l, c.isByte = true then some (.val (.str (l.map fun | .int _ n => UInt8.ofNat n.toNat | _ => 0)) (.set b none)) else none
          | none => none) else none
        | _ => none
      | _, _ => none
  | .j k => fun x t g nn => aopJE k x t g nn

theorem rdE_eq (h : Hp) (v : V) (n : Nat) : rd h v n = rdE (hget h) v n := by cases v <;> rfl
theorem srcE_eq (h : Hp) (es : Nat) (v : V) : src h es v = srcE (hget h) es v := by cases v <;> simp only [src, srcE, rdE_eq]
theorem wrE_eq (h : Hp) (b o : Nat) (xs : List V) : wr h b o xs = (wrE (hget h) b o xs).map (Eff.ap h) := by
  unfold wr wrE
  generalize hget h b = o
  cases o with
  | none => rfl
  | some y => cases y with
    | cells cs ty => simp only; split <;> rfl
    | _ => rfl
theorem appTyE_eq (h : Hp) (ex : Bool) (b off : Nat) (ty : Option TypeId) : appTy h ex b off ty = appTyE (hget h) ex b off ty := rfl
theorem lenE_eq (h : Hp) (q : Q) (v : V) : lenV h q v = lenE (hget h) q v := by cases v <;> rfl
theorem appE_eq (h : Hp) (es bt : Nat) (ag : Bool) (ty : Option TypeId) (s : V) (n : Nat) (ys : List V) : appV h es bt ag ty s n ys = (appE (hget h) h.length es bt ag ty s n ys).map (RzE.to h) := by
  cases s <;> simp only [appV, appE] <;> (try rfl)
  · split <;> (try rfl); split <;> rfl
  · rename_i b off len cap ex es' ag'
    split
    · rfl
    · split
      · rw [wrE_eq]; cases wrE (hget h) b (off + len * es) ys <;> rfl
      · split
        · rw [rdE_eq]
          cases rdE (hget h) (.ptr b off) (len * es) with
          | none => rfl
          | some old =>
            cases ex with
            | true => rfl
            | false => simp [newSl, RzE.to, Eff.ap, appTyE_eq]
        · rfl
  · split <;> (try rfl); split <;> rfl

theorem mapG {α : Type} {h : Hp} (o : Option α) (g : α → Rz) (f : α → RzE) (hf : ∀ a, g a = (f a).to h) : o.map g = (o.map f).map (RzE.to h) := by
  cases o
  · rfl
  · simp only [Option.map_some, hf]
theorem mapW {h : Hp} (o : Option Eff) (g : Hp → Rz) (f : Eff → RzE) (hf : ∀ a, g (Eff.ap h a) = (f a).to h) : (o.map (Eff.ap h)).map g = (o.map f).map (RzE.to h) := by
  cases o
  · rfl
  · simp only [Option.map_some, hf]

theorem aopJE_eq (x : X) (t : Nat → V) (h : Hp) (i : J) : aopJ x t h i = (aopJE i x t (hget h) h.length).map (RzE.to h) := by
  cases i with
  | cap a =>
    simp only [aopJ, aopJE]
    generalize O.ev x t a = va
    cases va <;> (try rfl)
    · rename_i ex _ _; cases ex <;> rfl
    · rename_i ex _; cases ex <;> rfl
  | slw es a b =>
    simp only [aopJ, aopJE]
    generalize O.ev x t a = va
    generalize O.ev x t b = vb
    cases va <;> (try rfl)
    cases vb <;> (try rfl)
    simp only; split <;> rfl
  | apm es bt ag z a b =>
    simp only [aopJ, aopJE]
    generalize O.ev x t a = va
    generalize O.ev x t b = vb
    cases va <;> (try rfl)
    cases vb <;> (try rfl)
    rename_i k n
    cases k <;> (try rfl)
    simp only; split <;> rfl
  | mkt bt z len ps ty =>
    simp only [aopJ, aopJE]
    generalize fillV z _ = o
    cases o <;> rfl
  | cvb ty a =>
    simp only [aopJ, aopJE]
    generalize O.ev x t a = va
    cases va <;> (try rfl)
    rename_i b off n c ex es ag
    simp only
    generalize hget h b = o2
    cases o2 with
    | none => rfl
    | some y => cases y with
      | map es => rfl
      | cells cs ty' => cases ty' with
        | none => rfl
        | some T => simp only; split <;> rfl
  | mkz es bt ag z a b =>
    simp only [aopJ, aopJE]
    generalize O.ev x t a = va
    generalize O.ev x t b = vb
    cases va <;> (try rfl)
    rename_i k n
    cases k <;> (try rfl)
    cases vb <;> (try rfl)
    rename_i k n
    cases k <;> (try rfl)
    simp only; split <;> rfl
  | mnz ty a =>
    simp only [aopJ, aopJE]
    generalize O.ev x t a = va
    cases va <;> (try rfl)
    rename_i k n
    cases k <;> (try rfl)
    simp only; split <;> rfl
  | adc a b c =>
    simp only [aopJ, aopJE]
    generalize O.ev x t a = va
    generalize O.ev x t b = vb
    generalize O.ev x t c = vc
    cases va <;> (try rfl)
    rename_i k1 n1
    cases k1 <;> (try rfl)
    cases vb <;> (try rfl)
    rename_i k2 n2
    cases k2 <;> (try rfl)
    cases vc <;> (try rfl)
    rename_i k3 n3
    cases k3 <;> (try rfl)
    simp only; split <;> rfl
  | min3 a b c =>
    simp only [aopJ, aopJE]
    generalize O.ev x t a = va
    generalize O.ev x t b = vb
    generalize O.ev x t c = vc
    cases va <;> (try rfl)
    cases vb <;> (try rfl)
    cases vc <;> (try rfl)
    simp only; split <;> rfl

theorem aopE_eq (x : X) (t : Nat → V) (h : Hp) (i : I) : aop x t h i = (aopE i x t (hget h) h.length).map (RzE.to h) := by
  cases i
  case j k => exact aopJE_eq x t h k
  case mks fz es bt ag z len ps =>
    simp only [aop, aopE]
    generalize fillV z _ = o
    cases o <;> cases fz <;> rfl
  case build z ps => simp only [aop, aopE]; exact mapG _ _ _ fun _ => rfl
  case load n ag a => simp only [aop, aopE, rdE_eq]; exact mapG _ _ _ fun _ => rfl
  case store n a v =>
    simp only [aop, aopE, wrE_eq]
    generalize O.ev x t a = va
    cases va <;> (try rfl)
    simp only
    split
    · exact mapW _ _ _ fun _ => rfl
    · rfl
  case nilck a =>
    simp only [aop, aopE]
    generalize O.ev x t a = va
    cases va <;> (try rfl)
    rename_i f _ _
    cases f <;> (try rfl)
    simp only; split <;> rfl
  case bin op q a b => simp only [aop, aopE]; exact mapG _ _ _ fun _ => rfl
  case un op a => simp only [aop, aopE]; exact mapG _ _ _ fun _ => rfl
  case s2b fz a =>
    simp only [aop, aopE]
    generalize O.ev x t a = va
    cases va <;> (try rfl)
    cases fz <;> rfl
  case b2s a =>
    simp only [aop, aopE, srcE_eq]
    split
    · rfl
    · generalize srcE (hget h) 1 _ = o
      cases o with
      | none => rfl
      | some p => simp only; split <;> rfl
  case arrp n es a =>
    simp only [aop, aopE]
    generalize O.ev x t a = va
    cases va <;> (try rfl)
    · simp only; split <;> rfl
    · simp only; split <;> rfl
  case mksl es bt ag z l c =>
    simp only [aop, aopE]
    generalize O.ev x t l = va
    generalize O.ev x t c = vb
    cases va <;> (try rfl)
    rename_i k1 n1
    cases k1 <;> (try rfl)
    cases vb <;> (try rfl)
    rename_i k2 n2
    cases k2 <;> (try rfl)
    simp only; split <;> rfl
  case slc st es a lo hi mx =>
    simp only [aop, aopE]
    split
    · rfl
    · generalize bnd x t 0 lo = o1
      generalize Option.map (fun o => bnd x t 0 (some o)) hi = o2
      generalize Option.map (fun o => bnd x t 0 (some o)) mx = o3
      cases o1 with
      | none => rfl
      | some l =>
        cases o2 with
        | none => cases o3 with
          | none => exact mapG _ _ _ fun _ => rfl
          | some y => cases y <;> rfl
        | some y => cases y with
          | none => cases o3 with
            | none => rfl
            | some y => cases y <;> rfl
          | some u => cases o3 with
            | none => exact mapG _ _ _ fun _ => rfl
            | some y => cases y with
              | none => rfl
              | some m => exact mapG _ _ _ fun _ => rfl
  case slca n es ag a lo hi mx =>
    simp only [aop, aopE, rdE_eq]
    generalize bnd x t 0 lo = o1
    generalize bnd x t n hi = o2
    generalize bnd x t n mx = o3
    cases o1 <;> (try rfl)
    cases o2 <;> (try rfl)
    cases o3 <;> (try rfl)
    simp only
    split
    · generalize O.ev x t a = va
      cases va <;> (try rfl)
      · simp only; split <;> rfl
      · exact mapG _ _ _ fun _ => rfl
    · rfl
  case fld off n ag a =>
    simp only [aop, aopE]
    generalize O.ev x t a = va
    cases va <;> (try rfl)
    exact mapG _ _ _ fun _ => rfl
  case iad es a i =>
    simp only [aop, aopE]
    generalize O.ev x t a = va
    generalize O.ev x t i = vb
    cases va <;> (try rfl)
    all_goals (cases vb <;> (try rfl))
    all_goals (simp only; split <;> rfl)
  case iada len es a i =>
    simp only [aop, aopE]
    generalize O.ev x t a = va
    generalize O.ev x t i = vb
    cases va <;> (try rfl)
    all_goals (cases vb <;> (try rfl))
    all_goals (simp only; split <;> rfl)
  case idxs a i =>
    simp only [aop, aopE]
    generalize O.ev x t a = va
    generalize O.ev x t i = vb
    cases va <;> (try rfl)
    cases vb <;> (try rfl)
    simp only; split <;> rfl
  case idxa len es ag a i =>
    simp only [aop, aopE]
    generalize O.ev x t a = va
    generalize O.ev x t i = vb
    cases va <;> (try rfl)
    cases vb <;> (try rfl)
    simp only
    split
    · exact mapG _ _ _ fun _ => rfl
    · rfl
  case look q zero a i ok =>
    simp only [aop, aopE]
    generalize O.ev x t a = va
    cases va <;> (try rfl)
    rename_i b
    simp only
    generalize hget h b = o
    cases o with
    | none => rfl
    | some y => cases y with
      | map es => exact mapG _ _ _ fun _ => rfl
      | _ => rfl
  case upd q m k v =>
    simp only [aop, aopE]
    generalize O.ev x t m = va
    cases va <;> (try rfl)
    rename_i b
    simp only
    generalize hget h b = o
    cases o with
    | none => rfl
    | some y => cases y with
      | map es => exact mapG _ _ _ fun _ => rfl
      | _ => rfl
  case ment q z m k =>
    simp only [aop, aopE]
    generalize O.ev x t m = va
    cases va <;> (try rfl)
    rename_i b
    simp only
    generalize hget h b = o
    cases o with
    | none => rfl
    | some y => cases y with
      | map es =>
        simp only
        generalize findM q _ es = o2
        cases o2 with
        | none => rfl
        | some r => exact mapG _ _ _ fun _ => rfl
      | _ => rfl
  case ests m i v =>
    simp only [aop, aopE]
    generalize O.ev x t m = va
    generalize O.ev x t i = vb
    cases va <;> (try rfl)
    rename_i b
    cases vb <;> (try rfl)
    rename_i k n
    simp only
    generalize hget h b = o
    cases o with
    | none => rfl
    | some y => cases y with
      | map es =>
        simp only
        generalize es[n.toNat]? = o2
        cases o2 with
        | none => rfl
        | some r => simp only; split <;> rfl
      | _ => rfl
  case asrt ty zero a ok =>
    simp only [aop, aopE]
    generalize O.ev x t a = va
    cases va <;> (try rfl)
    · simp only; split
      · rfl
      · cases ok <;> rfl
    · cases ok <;> rfl
  case ext a i =>
    simp only [aop, aopE]
    generalize O.ev x t a = va
    cases va <;> (try rfl)
    exact mapG _ _ _ fun _ => rfl
  case len q a => simp only [aop, aopE, lenE_eq]; exact mapG _ _ _ fun _ => rfl
  case app es bt ag ty s a =>
    simp only [aop, aopE, srcE_eq]
    generalize srcE (hget h) es _ = o
    cases o with
    | none => rfl
    | some p => exact appE_eq h es bt ag ty _ p.1 p.2
  case cpy es d s =>
    simp only [aop, aopE, srcE_eq, wrE_eq]
    generalize srcE (hget h) es _ = o
    cases o with
    | none => rfl
    | some p =>
      simp only
      generalize O.ev x t d = va
      cases va <;> (try rfl)
      simp only
      split
      · exact mapW _ _ _ fun _ => rfl
      · rfl
  case clr z a =>
    simp only [aop, aopE, wrE_eq]
    generalize O.ev x t a = va
    cases va <;> (try rfl)
    simp only
    split
    · split
      · rfl
      · exact mapW _ _ _ fun _ => rfl
    · rfl
  case max a b =>
    simp only [aop, aopE]
    generalize O.ev x t a = va
    generalize O.ev x t b = vb
    cases va <;> (try rfl)
    cases vb <;> (try rfl)
    simp only; split <;> rfl
  case min a b =>
    simp only [aop, aopE]
    generalize O.ev x t a = va
    generalize O.ev x t b = vb
    cases va <;> (try rfl)
    cases vb <;> (try rfl)
    simp only; split <;> rfl
  case call f args => simp only [aop, aopE]; exact mapG _ _ _ fun _ => rfl
  case dfr f args => simp only [aop, aopE]; exact mapG _ _ _ fun _ => rfl
  case inv r m args =>
    simp only [aop, aopE]
    generalize O.ev x t r = va
    cases va <;> (try rfl)
    rename_i ty v
    simp only
    generalize x.M ty m = o
    cases o with
    | none => rfl
    | some p =>
      obtain ⟨f, o2⟩ := p
      cases o2 with
      | none => rfl
      | some off => cases v <;> first | rfl | exact mapG _ _ _ fun _ => rfl
  case pne a b =>
    simp only [aop, aopE]
    generalize O.ev x t a = va
    generalize O.ev x t b = vb
    cases va <;> (try rfl)
    cases vb <;> (try rfl)
    simp only; split <;> rfl
  case toU a =>
    simp only [aop, aopE, rdE_eq]
    generalize O.ev x t a = va
    cases va <;> (try rfl)
    rename_i b o
    simp only
    generalize rdE (hget h) _ 1 = o
    cases o <;> rfl
  case frU ty n a =>
    simp only [aop, aopE]
    generalize O.ev x t a = va
    cases va <;> (try rfl)
    rename_i b o
    simp only
    generalize hget h b = o
    cases o with
    | none => rfl
    | some y => cases y with
      | cells cs ty' => cases ty' with
        | none => rfl
        | some ty' => simp only; split <;> rfl
      | _ => rfl
  case sld a =>
    simp only [aop, aopE]
    generalize O.ev x t a = va
    cases va <;> (try rfl)
    simp only; split <;> rfl
  case ustr ty p n =>
    simp only [aop, aopE]
    generalize O.ev x t p = va
    generalize O.ev x t n = vb
    cases va <;> (try rfl)
    all_goals (cases vb <;> (try rfl))
    all_goals (rename_i k m; cases k <;> (try rfl))
    · simp only; split <;> rfl
    · simp only
      split
      · rfl
      · rename_i b o _
        generalize hget h b = o2
        cases o2 with
        | none => rfl
        | some y => cases y with
          | cells cs ty' => cases ty' with
            | none => rfl
            | some ty' =>
              simp only
              split
              · generalize sub cs 0 m.toNat = o3
                cases o3 with
                | none => rfl
                | some l => simp only; split <;> rfl
              · rfl
          | _ => rfl
  case pan a =>
    simp only [aop, aopE]
    generalize O.ev x t a = va
    cases va <;> rfl
  case pick c a b =>
    simp only [aop, aopE]
    generalize O.ev x t c = va
    cases va <;> rfl
  case cvi k a =>
    simp only [aop, aopE]
    generalize O.ev x t a = va
    cases va <;> rfl
  case cvs a =>
    simp only [aop, aopE]
    generalize O.ev x t a = va
    cases va <;> rfl
  case fad off a =>
    simp only [aop, aopE]
    generalize O.ev x t a = va
    cases va <;> rfl
  case box ty a => simp only [aop, aopE]; split <;> rfl
  all_goals rfl
end Go.Vs.K
namespace Go.Vs.K
open Go.Vs
set_option linter.unusedSimpArgs false
set_option linter.unusedVariables false
set_option maxRecDepth 10000
noncomputable section

def evO (o : O) : X → (Nat → V) → V := O.rec (motive := fun _ => X → (Nat → V) → V) (fun n _ t => t n) (fun v _ _ => v) (fun g x _ => .fp (x.G g) 0) o
theorem evO_eq (o : O) (x : X) (t : Nat → V) : evO o x t = o.ev x t := by cases o <;> rfl
def evsO (l : List O) : X → (Nat → V) → List V := List.rec (motive := fun _ => X → (Nat → V) → List V) (fun _ _ => []) (fun o _ ih x t => evO o x t :: ih x t) l
theorem evsO_eq (x : X) (t : Nat → V) : ∀ l, evsO l x t = evs x t l
  | [] => rfl
  | o :: r => by
    show evO o x t :: evsO r x t = evs x t (o :: r)
    rw [evO_eq, evsO_eq x t r]; rfl
def bndO (x : X) (t : Nat → V) (d : Nat) : Option O → Option Nat
  | none => some d
  | some o => match evO o x t with
    | .int _ n => if 0 ≤ n then some n.toNat else none
    | _ => none
theorem bndO_eq (x : X) (t : Nat → V) (d : Nat) (o : Option O) : bndO x t d o = bnd x t d o := by
  cases o with
  | none => rfl
  | some o =>
    simp only [bndO, bnd, evO_eq]
    generalize O.ev x t o = v
    cases v <;> rfl

/-- Texts, told apart. -/
def strEq (a b : List UInt8) : Bool := List.rec (motive := fun _ => List UInt8 → Bool) (fun b => List.rec (motive := fun _ => Bool) true (fun _ _ _ => false) b)
  (fun x _ ih b => List.rec (motive := fun _ => Bool) false (fun y r _ => Bool.rec false (ih r) (Nat.beq x.toNat y.toNat)) b) a b
theorem strEq_cons (x y : UInt8) (a b : List UInt8) : strEq (x :: a) (y :: b) = (Nat.beq x.toNat y.toNat && strEq a b) := by
  show Bool.rec (motive := fun _ => Bool) false (strEq a b) (Nat.beq x.toNat y.toNat) = _
  cases Nat.beq x.toNat y.toNat <;> rfl
theorem strEq_eq : ∀ a b, strEq a b = (a == b)
  | [], [] => rfl
  | [], _ :: _ => rfl
  | _ :: _, [] => rfl
  | x :: a, y :: b => by
    rw [strEq_cons, strEq_eq a b, List.cons_beq_cons]
    congr 1
    by_cases h : x = y
    · subst h; rw [show Nat.beq x.toNat x.toNat = true from Nat.beq_refl _]; simp
    · rw [show Nat.beq x.toNat y.toNat = false from by rw [← Bool.not_eq_true, Nat.beq_eq]; exact fun e => h (UInt8.toNat.inj e)]
      symm; simpa using h

def binK (op : BinOp) (q : Q) (x y : V) : Option V := match q with
  | .str => match op with
    | .eql => match x, y with
      | .str a, .str b => some (.bool (strEq a b))
      | _, _ => none
    | .neq => match x, y with
      | .str a, .str b => some (.bool (!strEq a b))
      | _, _ => none
    | op => binV op .str x y
  | q => binV op q x y
theorem binK_eq (op : BinOp) (q : Q) (x y : V) : binK op q x y = binV op q x y := by
  unfold binK
  split
  · split
    · cases x <;> cases y <;> (try rfl)
      simp only [strEq_eq]; rfl
    · cases x <;> cases y <;> (try rfl)
      simp only [strEq_eq]; rfl
    · rfl
  · rfl

def veqK (q : Q) (x y : V) : Option Bool := match q, x, y with
  | .str, .str a, .str b => some (strEq a b)
  | q, x, y => veq q x y
theorem veqK_eq (q : Q) (x y : V) : veqK q x y = veq q x y := by
  unfold veqK
  split
  · rw [strEq_eq]; rfl
  · rfl
def findK (q : Q) (k : V) : List (V × V) → Option (Option V)
  | [] => some none
  | e :: r => match veqK q k e.1 with
    | some b => match b with
      | true => some (some e.2)
      | false => findK q k r
    | none => none
theorem findK_eq (q : Q) (k : V) : ∀ l, findK q k l = findM q k l
  | [] => rfl
  | (a, v) :: r => by
    simp only [findK, findM, veqK_eq, findK_eq q k r]
    cases veq q k a with
    | none => rfl
    | some b => cases b <;> rfl
def putK (q : Q) (k v : V) : List (V × V) → Option (List (V × V))
  | [] => some [(k, v)]
  | e :: r => match veqK q k e.1 with
    | some b => match b with
      | true => some ((k, v) :: r)
      | false => match putK q k v r with
        | some l => some (e :: l)
        | none => none
    | none => none
theorem putK_eq (q : Q) (k v : V) : ∀ l, putK q k v l = putM q k v l
  | [] => rfl
  | (a, u) :: r => by
    simp only [putK, putM, veqK_eq, putK_eq q k v r]
    cases veq q k a with
    | none => rfl
    | some b => cases b with
      | true => rfl
      | false => cases putM q k v r <;> rfl
def idxK (q : Q) (k : V) : List (V × V) → Nat
  | [] => 0
  | e :: r => match veqK q k e.1 with
    | some b => match b with
      | true => 0
      | false => Nat.succ (idxK q k r)
    | none => Nat.succ (idxK q k r)
theorem idxK_eq (q : Q) (k : V) : ∀ l, idxK q k l = idxM q k l
  | [] => rfl
  | (a, u) :: r => by
    simp only [idxK, idxM, veqK_eq, idxK_eq q k r]
    cases veq q k a with
    | none => rfl
    | some b => cases b <;> rfl

def aopJR_cap (a : O) (x : X) (t : Nat → V) (g : Gt) (nn : Nat) : Option RzE := match evO a x t with
      | .nsl => some (.val (.int .i64 0) .nil)
      | .sl _ _ _ cap ex _ _ => if ex then some (.val (.int .i64 cap) .nil) else none
      | .lst ex xs => if ex then some (.val (.int .i64 xs.length) .nil) else none
      | _ => none
def aopJR_slw (es : Nat) (a : O) (hi : O) (x : X) (t : Nat → V) (g : Gt) (nn : Nat) : Option RzE := match evO a x t, evO hi x t with
      | .sl b off _ cap _ es' ag, .int _ n => if es' = es ∧ 0 ≤ n ∧ n.toNat ≤ cap then some (.val (.sl b off n.toNat n.toNat false es ag) .nil) else none
      | _, _ => none
def aopJR_mnz (ty : TypeId) (n : O) (x : X) (t : Nat → V) (g : Gt) (nn : Nat) : Option RzE := match evO n x t with
      | .int .i64 n => if 0 ≤ n ∧ n ≤ room then some (.val (.sl nn 0 n.toNat n.toNat false 1 false) (.push (.cells [] (some ty)))) else none
      | _ => none
def aopJR_adc (a : O) (b : O) (c : O) (x : X) (t : Nat → V) (g : Gt) (nn : Nat) : Option RzE := match evO a x t, evO b x t, evO c x t with
      | .int .u64 a, .int .u64 b, .int .u64 c => if 0 ≤ c ∧ c ≤ 1 then some (.val (.tup [.int .u64 ((a.toNat + b.toNat + c.toNat) % 2 ^ 64 : Nat), .int .u64 ((a.toNat + b.toNat + c.toNat) / 2 ^ 64 : Nat)]) .nil) else none
      | _, _, _ => none
def aopJR_min3 (a : O) (b : O) (c : O) (x : X) (t : Nat → V) (g : Gt) (nn : Nat) : Option RzE := match evO a x t, evO b x t, evO c x t with
      | .int k a, .int k' b, .int k'' c => if k = k' ∧ k = k'' then some (.val (.int k (if c < (if b < a then b else a) then c else (if b < a then b else a))) .nil) else none
      | _, _, _ => none
def aopJR_mkz (es bt : Nat) (ag : Bool) (z : List V) (l c : O) (x : X) (t : Nat → V) (g : Gt) (nn : Nat) : Option RzE := match evO l x t, evO c x t with
      | .int .i64 l, .int .i64 c => if 0 ≤ l ∧ l = c ∧ c * bt ≤ room ∧ c ≤ room then some (.val (.lst true (chunk es ag c.toNat (List.replicate c.toNat z).flatten)) .nil) else none
      | _, _ => none
def aopJR_mkt (bt : Nat) (z : List V) (len : Nat) (ps : List (Nat × O)) (ty : TypeId) (x : X) (t : Nat → V) (g : Gt) (nn : Nat) : Option RzE := match fillV z (ps.map fun (i, a) => (i * 1, 1, evO a x t)) with
      | some cs => some (.val (.sl nn 0 len len true 1 false) (.push (.cells cs (some ty))))
      | none => none
def aopJR_cvb (ty : TypeId) (a : O) (x : X) (t : Nat → V) (g : Gt) (nn : Nat) : Option RzE := match evO a x t with
      | .sl b off n c ex es ag => match g b with
        | some (.cells cs (some ty')) => if ty' = ty ∧ cs.length = n ∧ c = n ∧ 0 < n ∧ off = 0 ∧ ex = true ∧ es = 1 ∧ ag = false then some (.val (.lst true (chunk 1 false n cs)) (.set b none)) else none
        | _ => none
      | _ => none
def aopJR_apm (es bt : Nat) (ag : Bool) (z : List V) (s n : O) (x : X) (t : Nat → V) (g : Gt) (nn : Nat) : Option RzE := match evO s x t, evO n x t with
      | .nsl, .int .i64 n => if 0 < n ∧ n * bt ≤ room then some (.val (.sl nn 0 n.toNat n.toNat false es ag) (.push (.cells (List.replicate n.toNat z).flatten none))) else none
      | _, _ => none
def aopJR (i : J) : X → (Nat → V) → Gt → Nat → Option RzE := J.rec (motive := fun _ => X → (Nat → V) → Gt → Nat → Option RzE)
  aopJR_cap aopJR_slw aopJR_mnz aopJR_adc aopJR_min3 aopJR_mkz aopJR_mkt aopJR_cvb aopJR_apm i

theorem aopJR_eq (i : J) (x : X) (t : Nat → V) (g : Gt) (nn : Nat) : aopJR i x t g nn = aopJE i x t g nn := by
  cases i
  · show aopJR_cap _ x t g nn = _
    simp only [aopJR_cap, evO_eq] <;> rfl
  · show aopJR_slw _ _ _ x t g nn = _
    simp only [aopJR_slw, evO_eq] <;> rfl
  · show aopJR_mnz _ _ x t g nn = _
    simp only [aopJR_mnz, evO_eq] <;> rfl
  · show aopJR_adc _ _ _ x t g nn = _
    simp only [aopJR_adc, evO_eq] <;> rfl
  · show aopJR_min3 _ _ _ x t g nn = _
    simp only [aopJR_min3, evO_eq] <;> rfl
  · show aopJR_mkz _ _ _ _ _ _ x t g nn = _
    simp only [aopJR_mkz, evO_eq] <;> rfl
  · rename_i bt z len ps ty
    show aopJR_mkt bt z len ps ty x t g nn = _
    simp only [aopJR_mkt, evO_eq] <;> rfl
  · show aopJR_cvb _ _ x t g nn = _
    simp only [aopJR_cvb, evO_eq] <;> rfl
  · show aopJR_apm _ _ _ _ _ _ x t g nn = _
    simp only [aopJR_apm, evO_eq] <;> rfl

def aopR_mov (a : O) (x : X) (t : Nat → V) (g : Gt) (nn : Nat) : Option RzE := some (.val (evO a x t) .nil)
def aopR_pick (c : O) (a : O) (b : O) (x : X) (t : Nat → V) (g : Gt) (nn : Nat) : Option RzE := match evO c x t with
      | .bool c => some (.val (if c then evO a x t else evO b x t) .nil)
      | _ => none
def aopR_new (z : List V) (ty : Option TypeId) (x : X) (t : Nat → V) (g : Gt) (nn : Nat) : Option RzE := some (.val (.ptr nn 0) (.push (.cells z ty)))
def aopR_box (ty : Option TypeId) (a : O) (x : X) (t : Nat → V) (g : Gt) (nn : Nat) : Option RzE := if ∀ c ∈ (evO a x t).cells, c.one = true then some (.val (.ptr nn 0) (.push (.cells (evO a x t).cells ty))) else none
def aopR_build (z : List V) (ps : List (Nat × Nat × O)) (x : X) (t : Nat → V) (g : Gt) (nn : Nat) : Option RzE := (fillV z (ps.map fun (o, n, a) => (o, n, evO a x t))).map fun cs => .val (.agg cs) .nil
def aopR_mks (fz : Bool) (es : Nat) (bt : Nat) (ag : Bool) (z : List V) (len : Nat) (ps : List (Nat × O)) (x : X) (t : Nat → V) (g : Gt) (nn : Nat) : Option RzE :=
      match fillV z (ps.map fun (i, a) => (i * es, es, evO a x t)) with
      | some cs => if fz then some (.val (.lst true (chunk es ag len cs)) .nil) else some (.val (.sl nn 0 len len true es ag) (.push (.cells cs)))
      | none => none
def aopR_load (n : Nat) (ag : Bool) (a : O) (x : X) (t : Nat → V) (g : Gt) (nn : Nat) : Option RzE := ((rdE g (evO a x t) n).bind (asV ag)).map fun v => .val v .nil
def aopR_store (n : Nat) (a : O) (v : O) (x : X) (t : Nat → V) (g : Gt) (nn : Nat) : Option RzE := match evO a x t with
      | .ptr b o => if (evO v x t).cells.length = n ∧ (∀ c ∈ (evO v x t).cells, c.one = true) then (wrE g b o (evO v x t).cells).map .skip else none
      | _ => none
def aopR_nilck (a : O) (x : X) (t : Nat → V) (g : Gt) (nn : Nat) : Option RzE := match evO a x t with
      | .ptr b o => some (.val (.ptr b o) .nil)
      | .fp cs o => some (.val (.fp cs o) .nil)
      | .fn (.func f) a b => some (.val (.fn (.func f) a b) .nil)
      | .fn (.method m) a b => if methNil x m a then some (.val (.fn (.method m) a b) .nil) else none
      | .ifc ty v => some (.val (.ifc ty v) .nil)
      | _ => none
def aopR_bin (op : BinOp) (q : Q) (a : O) (b : O) (x : X) (t : Nat → V) (g : Gt) (nn : Nat) : Option RzE := (if q = .ifc ∧ a.isTmp = true ∧ b.isTmp = true then none else binK op q (evO a x t) (evO b x t)).map fun v => .val v .nil
def aopR_un (op : UnOp) (a : O) (x : X) (t : Nat → V) (g : Gt) (nn : Nat) : Option RzE := (unV op (evO a x t)).map fun v => .val v .nil
def aopR_cvi (k : IntKind) (a : O) (x : X) (t : Nat → V) (g : Gt) (nn : Nat) : Option RzE := match evO a x t with
      | .int _ n => some (.val (.int k (k.wrap n)) .nil)
      | _ => none
def aopR_cvs (a : O) (x : X) (t : Nat → V) (g : Gt) (nn : Nat) : Option RzE := match evO a x t with
      | .str s => some (.val (.str s) .nil)
      | _ => none
def aopR_s2b (fz : Bool) (a : O) (x : X) (t : Nat → V) (g : Gt) (nn : Nat) : Option RzE := match evO a x t with
      | .str s => if fz then some (.val (.lst false (s.map fun c => .int .u8 c.toNat)) .nil) else some (newSlE nn s.length 1 false (s.map fun c => .int .u8 c.toNat))
      | _ => none
def aopR_b2s (a : O) (x : X) (t : Nat → V) (g : Gt) (nn : Nat) : Option RzE := if (evO a x t).isStr = true then none else match srcE g 1 (evO a x t) with
      | some (_, cs) => if ∀ c ∈ cs, c.isByte = true then some (.val (.str (cs.map fun | .int _ n => UInt8.ofNat n.toNat | _ => 0)) .nil) else none
      | none => none
def aopR_arrp (n : Nat) (es : Nat) (a : O) (x : X) (t : Nat → V) (g : Gt) (nn : Nat) : Option RzE := match evO a x t with
      | .sl b off len _ _ es' _ => if n ≤ len ∧ es' = es ∧ 0 < n then some (.val (.ptr b off) .nil) else none
      | .lst _ xs => if n ≤ xs.length ∧ 0 < n then some (.val (.fp (flat xs) 0) .nil) else none
      | _ => none
def aopR_mki (ty : TypeId) (a : O) (x : X) (t : Nat → V) (g : Gt) (nn : Nat) : Option RzE := some (.val (.ifc ty (evO a x t)) .nil)
def aopR_mkf (f : Fn) (first : List O) (cap : List O) (x : X) (t : Nat → V) (g : Gt) (nn : Nat) : Option RzE := some (.val (.fn f (evsO first x t) (evsO cap x t)) .nil)
def aopR_mkm (x : X) (t : Nat → V) (g : Gt) (nn : Nat) : Option RzE := some (.val (.map nn) (.push (.map [])))
def aopR_mksl (es : Nat) (bt : Nat) (ag : Bool) (z : List V) (l : O) (c : O) (x : X) (t : Nat → V) (g : Gt) (nn : Nat) : Option RzE := match evO l x t, evO c x t with
      | .int .i64 l, .int .i64 c => if 0 ≤ l ∧ l ≤ c ∧ c * bt ≤ room ∧ c ≤ room then some (.val (.sl nn 0 l.toNat c.toNat true es ag) (.push (.cells (List.replicate c.toNat z).flatten))) else none
      | _, _ => none
def aopR_slc (st : Bool) (es : Nat) (a : O) (lo : Option O) (hi : Option O) (mx : Option O) (x : X) (t : Nat → V) (g : Gt) (nn : Nat) : Option RzE :=
      if (evO a x t).isStr ≠ st then none else
      match bndO x t 0 lo, hi.map (fun o => bndO x t 0 (some o)), mx.map (fun o => bndO x t 0 (some o)) with
      | some l, none, none => (slcV es (evO a x t) l none none).map fun v => .val v .nil
      | some l, some (some u), none => (slcV es (evO a x t) l (some u) none).map fun v => .val v .nil
      | some l, some (some u), some (some m) => (slcV es (evO a x t) l (some u) (some m)).map fun v => .val v .nil
      | _, _, _ => none
def aopR_slca (n : Nat) (es : Nat) (ag : Bool) (a : O) (lo : Option O) (hi : Option O) (mx : Option O) (x : X) (t : Nat → V) (g : Gt) (nn : Nat) : Option RzE :=
      match bndO x t 0 lo, bndO x t n hi, bndO x t n mx with
      | some l, some u, some m =>
        if l ≤ u ∧ u ≤ m ∧ m ≤ n then match evO a x t with
          | .ptr b o => if (rdE g (.ptr b o) (n * es)).isSome then some (.val (.sl b (o + l * es) (u - l) (m - l) true es ag) .nil) else none
          | .fp cs o => (sub cs o (n * es)).map fun c => .val (.lst (u == m) (((chunk es ag n c).take u).drop l)) .nil
          | _ => none
        else none
      | _, _, _ => none
def aopR_fad (off : Nat) (a : O) (x : X) (t : Nat → V) (g : Gt) (nn : Nat) : Option RzE := match evO a x t with
      | .ptr b o => some (.val (.ptr b (o + off)) .nil)
      | .fp cs o => some (.val (.fp cs (o + off)) .nil)
      | _ => none
def aopR_fld (off : Nat) (n : Nat) (ag : Bool) (a : O) (x : X) (t : Nat → V) (g : Gt) (nn : Nat) : Option RzE := match evO a x t with
      | .agg cs => ((sub cs off n).bind (asV ag)).map fun v => .val v .nil
      | _ => none
def aopR_iad (es : Nat) (a : O) (i : O) (x : X) (t : Nat → V) (g : Gt) (nn : Nat) : Option RzE := match evO a x t, evO i x t with
      | .sl b off len _ _ es' _, .int _ i => if es' = es ∧ 0 ≤ i ∧ i < len then some (.val (.ptr b (off + i.toNat * es)) .nil) else none
      | .lst _ xs, .int _ i => if 0 ≤ i ∧ i < xs.length ∧ (xs.getD i.toNat .nptr).cells.length = es then some (.val (.fp (xs.getD i.toNat .nptr).cells 0) .nil) else none
      | _, _ => none
def aopR_iada (len : Nat) (es : Nat) (a : O) (i : O) (x : X) (t : Nat → V) (g : Gt) (nn : Nat) : Option RzE := match evO a x t, evO i x t with
      | .ptr b o, .int _ i => if 0 ≤ i ∧ i < len then some (.val (.ptr b (o + i.toNat * es)) .nil) else none
      | .fp cs o, .int _ i => if 0 ≤ i ∧ i < len then some (.val (.fp cs (o + i.toNat * es)) .nil) else none
      | _, _ => none
def aopR_idxs (a : O) (i : O) (x : X) (t : Nat → V) (g : Gt) (nn : Nat) : Option RzE := match evO a x t, evO i x t with
      | .str s, .int _ i => if 0 ≤ i ∧ i < s.length then some (.val (.int .u8 (s.getD i.toNat 0).toNat) .nil) else none
      | _, _ => none
def aopR_idxa (len : Nat) (es : Nat) (ag : Bool) (a : O) (i : O) (x : X) (t : Nat → V) (g : Gt) (nn : Nat) : Option RzE := match evO a x t, evO i x t with
      | .agg cs, .int _ i => if 0 ≤ i ∧ i < len then ((sub cs (i.toNat * es) es).bind (asV ag)).map fun v => .val v .nil else none
      | _, _ => none
def aopR_look (q : Q) (zero : V) (a : O) (i : O) (ok : Bool) (x : X) (t : Nat → V) (g : Gt) (nn : Nat) : Option RzE := match evO a x t with
      | .nmap => some (.val (if ok then .tup [zero, .bool false] else zero) .nil)
      | .map b => match g b with
        | some (.map es) => (findK q (evO i x t) es).map fun r => .val (if ok then .tup [r.getD zero, .bool r.isSome] else r.getD zero) .nil
        | _ => none
      | _ => none
def aopR_upd (q : Q) (m : O) (k : O) (v : O) (x : X) (t : Nat → V) (g : Gt) (nn : Nat) : Option RzE := match evO m x t with
      | .map b => match g b with
        | some (.map es) => (putK q (evO k x t) (evO v x t) es).map fun es => .skip (.set b (some (.map es)))
        | _ => none
      | _ => none
def aopR_ment (q : Q) (z : V) (m : O) (k : O) (x : X) (t : Nat → V) (g : Gt) (nn : Nat) : Option RzE := match evO m x t with
      | .map b => match g b with
        | some (.map es) => match findK q (evO k x t) es with
          | some r => (putK q (evO k x t) (r.getD z) es).map fun es' => .val (.tup [r.getD z, .int .i64 (idxK q (evO k x t) es)]) (.set b (some (.map es')))
          | none => none
        | _ => none
      | _ => none
def aopR_ests (m : O) (i : O) (v : O) (x : X) (t : Nat → V) (g : Gt) (nn : Nat) : Option RzE := match evO m x t, evO i x t with
      | .map b, .int _ n => match g b with
        | some (.map es) => match es[n.toNat]? with
          | some e => if 0 ≤ n then some (.skip (.set b (some (.map (es.set n.toNat (e.1, evO v x t)))))) else none
          | none => none
        | _ => none
      | _, _ => none
def aopR_asrt (ty : TypeId) (zero : V) (a : O) (ok : Bool) (x : X) (t : Nat → V) (g : Gt) (nn : Nat) : Option RzE := match evO a x t with
      | .ifc u v => if u = ty then some (.val (if ok then .tup [v, .bool true] else v) .nil) else if ok then some (.val (.tup [zero, .bool false]) .nil) else none
      | .nifc => if ok then some (.val (.tup [zero, .bool false]) .nil) else none
      | _ => none
def aopR_ext (a : O) (i : Nat) (x : X) (t : Nat → V) (g : Gt) (nn : Nat) : Option RzE := match evO a x t with
      | .tup vs => (vs[i]?).map fun v => .val v .nil
      | _ => none
def aopR_len (q : Q) (a : O) (x : X) (t : Nat → V) (g : Gt) (nn : Nat) : Option RzE := (lenE g q (evO a x t)).map fun v => .val v .nil
def aopR_lenc (n : Nat) (x : X) (t : Nat → V) (g : Gt) (nn : Nat) : Option RzE := some (.val (.int .i64 n) .nil)
def aopR_app (es : Nat) (bt : Nat) (ag : Bool) (ty : Option TypeId) (s : O) (a : O) (x : X) (t : Nat → V) (g : Gt) (nn : Nat) : Option RzE := match srcE g es (evO a x t) with
      | some (n, ys) => appE g nn es bt ag ty (evO s x t) n ys
      | none => none
def aopR_cpy (es : Nat) (d : O) (s : O) (x : X) (t : Nat → V) (g : Gt) (nn : Nat) : Option RzE := match srcE g es (evO s x t) with
      | some (n, ys) => match evO d x t with
        | .nsl => some (.val (.int .i64 0) .nil)
        | .sl b off len _ _ es' _ => if es' = es then (wrE g b off (ys.take (Min.min n len * es))).map (.val (.int .i64 (Min.min n len : Nat))) else none
        | _ => none
      | none => none
def aopR_clr (z : List V) (a : O) (x : X) (t : Nat → V) (g : Gt) (nn : Nat) : Option RzE := match evO a x t with
      | .nsl => some (.val (.tup []) .nil)
      | .sl b off len _ _ es _ => if z.length = es then (if len = 0 then some (.val (.tup []) .nil) else (wrE g b off (List.replicate len z).flatten).map (.val (.tup []))) else none
      | _ => none
def aopR_max (a : O) (b : O) (x : X) (t : Nat → V) (g : Gt) (nn : Nat) : Option RzE := match evO a x t, evO b x t with
      | .int k a, .int k' b => if k = k' then some (.val (.int k (if b > a then b else a)) .nil) else none
      | _, _ => none
def aopR_min (a : O) (b : O) (x : X) (t : Nat → V) (g : Gt) (nn : Nat) : Option RzE := match evO a x t, evO b x t with
      | .int k a, .int k' b => if k = k' then some (.val (.int k (if b < a then b else a)) .nil) else none
      | _, _ => none
def aopR_call (f : O) (args : List O) (x : X) (t : Nat → V) (g : Gt) (nn : Nat) : Option RzE := (callV (evO f x t) (evsO args x t)).map fun (f, l) => .call f l
def aopR_inv (r : O) (m : String) (args : List O) (x : X) (t : Nat → V) (g : Gt) (nn : Nat) : Option RzE := match evO r x t with
      | .ifc ty v => match x.M ty m with
        | some (f, none) => some (.call f (v :: evsO args x t))
        | some (f, some off) => match v with
          | .agg cs => (cs[off]?).map fun c => .call f (c :: evsO args x t)
          | _ => none
        | none => none
      | _ => none
def aopR_dfr (f : O) (args : List O) (x : X) (t : Nat → V) (g : Gt) (nn : Nat) : Option RzE := (callV (evO f x t) (evsO args x t)).map fun (f, l) => .dfr f l
def aopR_pan (a : O) (x : X) (t : Nat → V) (g : Gt) (nn : Nat) : Option RzE := match evO a x t with
      | .ifc ty v => some (.pan (.ifc ty v))
      | _ => none
def aopR_recov (x : X) (t : Nat → V) (g : Gt) (nn : Nat) : Option RzE := none
def aopR_pne (a : O) (b : O) (x : X) (t : Nat → V) (g : Gt) (nn : Nat) : Option RzE := match evO a x t, evO b x t with
      | .ptr b o, .ptr b' o' => if b = b' ∧ o = o' ∧ (g b).isSome = true then some (.val (.bool false) .nil) else none
      | _, _ => none
def aopR_toU (a : O) (x : X) (t : Nat → V) (g : Gt) (nn : Nat) : Option RzE := match evO a x t with
      | .nptr => some (.val .nptr .nil)
      | .ptr b o => match rdE g (.ptr b o) 1 with
        | some _ => some (.val (.ptr b o) .nil)
        | none => none
      | _ => none
def aopR_frU (ty : TypeId) (n : Nat) (a : O) (x : X) (t : Nat → V) (g : Gt) (nn : Nat) : Option RzE := match evO a x t with
      | .nptr => some (.val .nptr .nil)
      | .ptr b o => match g b with
        | some (.cells cs (some ty')) => if ty' = ty ∧ o = 0 ∧ n ≤ cs.length then some (.val (.ptr b o) .nil) else none
        | _ => none
      | _ => none
def aopR_noEsc (a : O) (x : X) (t : Nat → V) (g : Gt) (nn : Nat) : Option RzE := some (.val (evO a x t) .nil)
def aopR_sld (a : O) (x : X) (t : Nat → V) (g : Gt) (nn : Nat) : Option RzE := match evO a x t with
      | .nsl => some (.val .nptr .nil)
      | .sl b off _ cap _ _ _ => if 0 < cap then some (.val (.ptr b off) .nil) else none
      | _ => none
def aopR_ustr (ty : TypeId) (p : O) (n : O) (x : X) (t : Nat → V) (g : Gt) (nn : Nat) : Option RzE := match evO p x t, evO n x t with
      | .nptr, .int .i64 n => if n = 0 then some (.val (.str []) .nil) else none
      | .ptr b o, .int .i64 n => if n = 0 then some (.val (.str []) .nil) else
        match g b with
        | some (.cells cs (some ty')) => if ty' = ty ∧ o = 0 ∧ 0 ≤ n ∧ n ≤ 9223372036854775807 then (match sub cs 0 n.toNat with
          | some l => if ∀ c ∈ l, c.isByte = true then some (.val (.str (l.map fun | .int _ n => UInt8.ofNat n.toNat | _ => 0)) (.set b none)) else none
          | none => none) else none
        | _ => none
      | _, _ => none
def aopR_j (k : J) (x : X) (t : Nat → V) (g : Gt) (nn : Nat) : Option RzE := aopJR k x t g nn
def aopR (i : I) : X → (Nat → V) → Gt → Nat → Option RzE := I.rec (motive := fun _ => X → (Nat → V) → Gt → Nat → Option RzE)
  aopR_mov aopR_pick aopR_new aopR_box aopR_build aopR_mks aopR_load aopR_store aopR_nilck aopR_bin aopR_un aopR_cvi aopR_cvs aopR_s2b aopR_b2s aopR_arrp aopR_mki aopR_mkf aopR_mkm aopR_mksl aopR_slc aopR_slca aopR_fad aopR_fld aopR_iad aopR_iada aopR_idxs aopR_idxa aopR_look aopR_upd aopR_ment aopR_ests aopR_asrt aopR_ext aopR_len aopR_lenc aopR_app aopR_cpy aopR_clr aopR_max aopR_min aopR_call aopR_inv aopR_dfr aopR_pan aopR_recov aopR_pne aopR_toU aopR_frU aopR_noEsc aopR_sld aopR_ustr aopR_j i

theorem aopR_eq (i : I) (x : X) (t : Nat → V) (g : Gt) (nn : Nat) : aopR i x t g nn = aopE i x t g nn := by
  cases i
  · show aopR_mov _ x t g nn = _
    simp only [aopR_mov, aopE, evO_eq, evsO_eq, bndO_eq, binK_eq, findK_eq, putK_eq, idxK_eq] <;> rfl
  · show aopR_pick _ _ _ x t g nn = _
    simp only [aopR_pick, aopE, evO_eq, evsO_eq, bndO_eq, binK_eq, findK_eq, putK_eq, idxK_eq] <;> rfl
  · rfl
  · show aopR_box _ _ x t g nn = _
    simp only [aopR_box, aopE, evO_eq, evsO_eq, bndO_eq, binK_eq, findK_eq, putK_eq, idxK_eq] <;> rfl
  · show aopR_build _ _ x t g nn = _
    simp only [aopR_build, aopE, evO_eq, evsO_eq, bndO_eq, binK_eq, findK_eq, putK_eq, idxK_eq] <;> rfl
  · rename_i fz es bt ag z len ps
    show aopR_mks fz es bt ag z len ps x t g nn = _
    simp only [aopR_mks, aopE, evO_eq] <;> rfl
  · show aopR_load _ _ _ x t g nn = _
    simp only [aopR_load, aopE, evO_eq, evsO_eq, bndO_eq, binK_eq, findK_eq, putK_eq, idxK_eq] <;> rfl
  · show aopR_store _ _ _ x t g nn = _
    simp only [aopR_store, aopE, evO_eq, evsO_eq, bndO_eq, binK_eq, findK_eq, putK_eq, idxK_eq] <;> rfl
  · show aopR_nilck _ x t g nn = _
    simp only [aopR_nilck, aopE, evO_eq, evsO_eq, bndO_eq, binK_eq, findK_eq, putK_eq, idxK_eq] <;> rfl
  · show aopR_bin _ _ _ _ x t g nn = _
    simp only [aopR_bin, aopE, evO_eq, evsO_eq, bndO_eq, binK_eq, findK_eq, putK_eq, idxK_eq] <;> rfl
  · show aopR_un _ _ x t g nn = _
    simp only [aopR_un, aopE, evO_eq, evsO_eq, bndO_eq, binK_eq, findK_eq, putK_eq, idxK_eq] <;> rfl
  · show aopR_cvi _ _ x t g nn = _
    simp only [aopR_cvi, aopE, evO_eq, evsO_eq, bndO_eq, binK_eq, findK_eq, putK_eq, idxK_eq] <;> rfl
  · show aopR_cvs _ x t g nn = _
    simp only [aopR_cvs, aopE, evO_eq, evsO_eq, bndO_eq, binK_eq, findK_eq, putK_eq, idxK_eq] <;> rfl
  · show aopR_s2b _ _ x t g nn = _
    simp only [aopR_s2b, aopE, evO_eq, evsO_eq, bndO_eq, binK_eq, findK_eq, putK_eq, idxK_eq] <;> rfl
  · show aopR_b2s _ x t g nn = _
    simp only [aopR_b2s, aopE, evO_eq, evsO_eq, bndO_eq, binK_eq, findK_eq, putK_eq, idxK_eq] <;> rfl
  · show aopR_arrp _ _ _ x t g nn = _
    simp only [aopR_arrp, aopE, evO_eq, evsO_eq, bndO_eq, binK_eq, findK_eq, putK_eq, idxK_eq] <;> rfl
  · show aopR_mki _ _ x t g nn = _
    simp only [aopR_mki, aopE, evO_eq, evsO_eq, bndO_eq, binK_eq, findK_eq, putK_eq, idxK_eq] <;> rfl
  · show aopR_mkf _ _ _ x t g nn = _
    simp only [aopR_mkf, aopE, evO_eq, evsO_eq, bndO_eq, binK_eq, findK_eq, putK_eq, idxK_eq] <;> rfl
  · rfl
  · show aopR_mksl _ _ _ _ _ _ x t g nn = _
    simp only [aopR_mksl, aopE, evO_eq, evsO_eq, bndO_eq, binK_eq, findK_eq, putK_eq, idxK_eq] <;> rfl
  · show aopR_slc _ _ _ _ _ _ x t g nn = _
    simp only [aopR_slc, aopE, evO_eq, evsO_eq, bndO_eq, binK_eq, findK_eq, putK_eq, idxK_eq] <;> rfl
  · show aopR_slca _ _ _ _ _ _ _ x t g nn = _
    simp only [aopR_slca, aopE, evO_eq, evsO_eq, bndO_eq, binK_eq, findK_eq, putK_eq, idxK_eq] <;> rfl
  · show aopR_fad _ _ x t g nn = _
    simp only [aopR_fad, aopE, evO_eq, evsO_eq, bndO_eq, binK_eq, findK_eq, putK_eq, idxK_eq] <;> rfl
  · show aopR_fld _ _ _ _ x t g nn = _
    simp only [aopR_fld, aopE, evO_eq, evsO_eq, bndO_eq, binK_eq, findK_eq, putK_eq, idxK_eq] <;> rfl
  · show aopR_iad _ _ _ x t g nn = _
    simp only [aopR_iad, aopE, evO_eq, evsO_eq, bndO_eq, binK_eq, findK_eq, putK_eq, idxK_eq] <;> rfl
  · show aopR_iada _ _ _ _ x t g nn = _
    simp only [aopR_iada, aopE, evO_eq, evsO_eq, bndO_eq, binK_eq, findK_eq, putK_eq, idxK_eq] <;> rfl
  · show aopR_idxs _ _ x t g nn = _
    simp only [aopR_idxs, aopE, evO_eq, evsO_eq, bndO_eq, binK_eq, findK_eq, putK_eq, idxK_eq] <;> rfl
  · show aopR_idxa _ _ _ _ _ x t g nn = _
    simp only [aopR_idxa, aopE, evO_eq, evsO_eq, bndO_eq, binK_eq, findK_eq, putK_eq, idxK_eq] <;> rfl
  · show aopR_look _ _ _ _ _ x t g nn = _
    simp only [aopR_look, aopE, evO_eq, evsO_eq, bndO_eq, binK_eq, findK_eq, putK_eq, idxK_eq] <;> rfl
  · show aopR_upd _ _ _ _ x t g nn = _
    simp only [aopR_upd, aopE, evO_eq, evsO_eq, bndO_eq, binK_eq, findK_eq, putK_eq, idxK_eq] <;> rfl
  · show aopR_ment _ _ _ _ x t g nn = _
    simp only [aopR_ment, aopE, evO_eq, evsO_eq, bndO_eq, binK_eq, findK_eq, putK_eq, idxK_eq] <;> rfl
  · show aopR_ests _ _ _ x t g nn = _
    simp only [aopR_ests, aopE, evO_eq, evsO_eq, bndO_eq, binK_eq, findK_eq, putK_eq, idxK_eq] <;> rfl
  · show aopR_asrt _ _ _ _ x t g nn = _
    simp only [aopR_asrt, aopE, evO_eq, evsO_eq, bndO_eq, binK_eq, findK_eq, putK_eq, idxK_eq] <;> rfl
  · show aopR_ext _ _ x t g nn = _
    simp only [aopR_ext, aopE, evO_eq, evsO_eq, bndO_eq, binK_eq, findK_eq, putK_eq, idxK_eq] <;> rfl
  · show aopR_len _ _ x t g nn = _
    simp only [aopR_len, aopE, evO_eq, evsO_eq, bndO_eq, binK_eq, findK_eq, putK_eq, idxK_eq] <;> rfl
  · rfl
  · show aopR_app _ _ _ _ _ _ x t g nn = _
    simp only [aopR_app, aopE, evO_eq] <;> (generalize srcE g _ _ = o; cases o <;> rfl)
  · show aopR_cpy _ _ _ x t g nn = _
    simp only [aopR_cpy, aopE, evO_eq, evsO_eq, bndO_eq, binK_eq, findK_eq, putK_eq, idxK_eq] <;> rfl
  · show aopR_clr _ _ x t g nn = _
    simp only [aopR_clr, aopE, evO_eq, evsO_eq, bndO_eq, binK_eq, findK_eq, putK_eq, idxK_eq] <;> rfl
  · show aopR_max _ _ x t g nn = _
    simp only [aopR_max, aopE, evO_eq, evsO_eq, bndO_eq, binK_eq, findK_eq, putK_eq, idxK_eq] <;> rfl
  · show aopR_min _ _ x t g nn = _
    simp only [aopR_min, aopE, evO_eq, evsO_eq, bndO_eq, binK_eq, findK_eq, putK_eq, idxK_eq] <;> rfl
  · show aopR_call _ _ x t g nn = _
    simp only [aopR_call, aopE, evO_eq, evsO_eq, bndO_eq, binK_eq, findK_eq, putK_eq, idxK_eq] <;> rfl
  · show aopR_inv _ _ _ x t g nn = _
    simp only [aopR_inv, aopE, evO_eq, evsO_eq, bndO_eq, binK_eq, findK_eq, putK_eq, idxK_eq] <;> rfl
  · show aopR_dfr _ _ x t g nn = _
    simp only [aopR_dfr, aopE, evO_eq, evsO_eq, bndO_eq, binK_eq, findK_eq, putK_eq, idxK_eq] <;> rfl
  · show aopR_pan _ x t g nn = _
    simp only [aopR_pan, aopE, evO_eq, evsO_eq, bndO_eq, binK_eq, findK_eq, putK_eq, idxK_eq] <;> rfl
  · rfl
  · show aopR_pne _ _ x t g nn = _
    simp only [aopR_pne, aopE, evO_eq, evsO_eq, bndO_eq, binK_eq, findK_eq, putK_eq, idxK_eq] <;> rfl
  · show aopR_toU _ x t g nn = _
    simp only [aopR_toU, aopE, evO_eq, evsO_eq, bndO_eq, binK_eq, findK_eq, putK_eq, idxK_eq] <;> rfl
  · show aopR_frU _ _ _ x t g nn = _
    simp only [aopR_frU, aopE, evO_eq, evsO_eq, bndO_eq, binK_eq, findK_eq, putK_eq, idxK_eq] <;> rfl
  · show aopR_noEsc _ x t g nn = _
    simp only [aopR_noEsc, aopE, evO_eq, evsO_eq, bndO_eq, binK_eq, findK_eq, putK_eq, idxK_eq] <;> rfl
  · show aopR_sld _ x t g nn = _
    simp only [aopR_sld, aopE, evO_eq, evsO_eq, bndO_eq, binK_eq, findK_eq, putK_eq, idxK_eq] <;> rfl
  · show aopR_ustr _ _ _ x t g nn = _
    simp only [aopR_ustr, aopE, evO_eq, evsO_eq, bndO_eq, binK_eq, findK_eq, putK_eq, idxK_eq] <;> rfl
  · exact aopJR_eq ..
end
end Go.Vs.K
