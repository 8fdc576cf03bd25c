/- What is shown of the plain data holds of the machine. -/
import Derived.Test.YtpefpiccljohlaaZvDraw
namespace Go.Vs
open Go.RowKit

def DR (E : Env) (ds : List (FuncId × List V)) (us : List Deferred) : Prop := us.length = ds.length ∧ ∀ (j : Nat) d u, ds[j]? = some d → us[j]? = some u → ∃ cap, u.target = .fn (.func d.1) cap ∧ VRs E d.2 (u.args ++ cap)

theorem VRs.mono {E E' : Env} (hE : Le E E') {xs : List V} {vs : Array Value} (h : VRs E xs vs) : VRs E' xs vs := ⟨h.1, fun j x v hx hv => (h.2 j x v hx hv).mono hE⟩
theorem DR.mono {E E' : Env} (hE : Le E E') {ds : List (FuncId × List V)} {us : List Deferred} (h : DR E ds us) : DR E' ds us :=
  ⟨h.1, fun j d u hd hu => let ⟨cap, h1, h2⟩ := h.2 j d u hd hu; ⟨cap, h1, h2.mono hE⟩⟩

structure SRel (x : X) (w0 : World) (N : Nat) (E : Env) (s : St) (a : Act) (w : World) : Prop where
  sr : SR w0 E s.h w
  gr : GR x E
  tm : ∀ n, VR E (s.t n) (a.tmps.getD n undef)
  sz : a.tmps.size = N
  df : DR E s.d a.defers

def ExR (E : Env) : Ex → Exit → Prop
  | .normal, .normal => True
  | .exit i, .exit j => i = j
  | .ret, .ret => True
  | .pan x, .panic l => ∃ v, VR E x v ∧ l = [entry v]
  | _, _ => False

def Lift (x : X) (w0 : World) (N : Nat) (E : Env) (Q : Ex → St → Prop) : Exit → Act → World → Prop := fun e a w => ∃ E' s y, Le E E' ∧ SRel x w0 N E' s a w ∧ ExR E' y e ∧ Q y s

/-- An operation of a region, and the one that is told. -/
def ckA (P : Program) (N : Nat) (ops : Array Oper) (o : Oper) (b : A) : Bool :=
  o.dst == b.dst && (match b.dst with | some d => decide (d < N) | none => true) && ckI P o.op b.i &&
  (match o.guard, b.g with
   | none, none => true
   | some (j, w), some (d, w') => w == w' && decide (d < N) && ((ops[j]?).bind (·.dst)) == some d
   | _, _ => false)

def ckAs (P : Program) (N : Nat) (ops : Array Oper) : List Oper → List A → Bool
  | [], [] => true
  | o :: r, b :: s => ckA P N ops o b && ckAs P N ops r s
  | _, _ => false

def apartA (a b : A) : Bool := (match a.dst with
    | some d => !b.looks.contains d && b.dst != some d
    | none => true) && (match b.dst with
    | some d => !a.looks.contains d
    | none => true)

/-- Operation i may be taken first: what has not come up yet, and does not wait for it, is apart from it. -/
def freeOk (ops : Array Oper) (as : List A) (listed : Array Bool) (i : Nat) : Bool := match as[i]? with
  | none => false
  | some a => (List.range ops.size).all fun j => j == i || listed.getD j true || ((ops[j]?).map fun o => o.after.toList.any fun e => Region.binds .any e && e.on == i).getD true ||
      (match as[j]? with
       | none => false
       | some b => apartA a b && (a.i.silent || (a.i.reads && b.i.reads)))

def ckD (ops : Array Oper) (as : List A) : Nat → Array Bool → Option (List Nat) → D → Bool
  | _, listed, none, .done => (Region.ready .any ops listed).isEmpty
  | f + 1, listed, none, .free i r => (Region.ready .any ops listed).contains i && (as[i]?).any (·.i.reads) && freeOk ops as listed i && ckD ops as f (listed.setIfInBounds i true) none r
  | f + 1, listed, none, .cho i r o => (match Region.ready .any ops listed with
    | [] => false
    | k :: ks => k == i && ckD ops as f (listed.setIfInBounds i true) none r && ckD ops as (f + 1) listed (some ks) o)
  | f + 1, listed, some (k :: ks), .cho i r o => k == i && ckD ops as f (listed.setIfInBounds i true) none r && ckD ops as (f + 1) listed (some ks) o
  | _, _, some [], .nope => true
  | _, _, _, _ => false

def ckC (P : Program) (N : Nat) : Code → C → Bool
  | .skip, .skip => true
  | .region _ ops false, .reg as => ckAs P N ops ops.toList as
  | .region _ ops true, .dreg as d => ckAs P N ops ops.toList as && ckD ops as ops.size (Array.replicate ops.size false) none d && P.follows .mixedOrders
  | .seq a b, .seq c d => ckC P N a c && ckC P N b d
  | .cond p a b, .cond o c d => ckO p o && ckC P N a c && ckC P N b d
  | .block i a, .block j c => i == j && ckC P N a c
  | .loop a, .loop c => ckC P N a c
  | .exit i, .exit j => i == j
  | .ret, .ret => true
  | _, .no => true
  | _, _ => false

section
variable {x : X} {w0 w : World} {N : Nat} {E : Env} {s : St} {a : Act}

theorem SRel.put (H : SRel x w0 N E s a w) {E' : Env} {w' : World} {h' : Hp} (hE : Le E E') (hs : SR w0 E' h' w') {d : Option Nat} (hd : ∀ k, d = some k → k < N) {v : V} {u : Value} (hv : VR E' v u) :
    SRel x w0 N E' { s with t := put s.t d v, h := h' } (a.put d u) w' := by
  refine ⟨hs, H.gr.mono hE, fun n => ?_, ?_, ?_⟩
  · cases d with
    | none => exact (H.tm n).mono hE
    | some k =>
      have hk := hd k rfl
      simp only [Vs.put, Act.put]
      by_cases hn : n = k
      · subst hn
        rw [if_pos rfl]
        have : (a.tmps.setIfInBounds n u).getD n undef = u := by
          simp only [Array.getD_eq_getD_getElem?]
          rw [Array.getElem?_setIfInBounds_self_of_lt (by rw [H.sz]; exact hk)]; rfl
        rw [this]; exact hv
      · rw [if_neg hn]
        have : (a.tmps.setIfInBounds k u).getD n undef = a.tmps.getD n undef := by
          simp only [Array.getD_eq_getD_getElem?]
          rw [Array.getElem?_setIfInBounds_ne (fun e => hn e.symm)]
        rw [this]; exact (H.tm n).mono hE
  · cases d with
    | none => exact H.sz
    | some k => simp only [Act.put, Array.size_setIfInBounds]; exact H.sz
  · have : (a.put d u).defers = a.defers := by cases d <;> rfl
    rw [this]; exact H.df.mono hE

theorem udf_vr (E : Env) : VR E udf undef := .tup [] #[] rfl (fun j x v hx => by simp at hx)

theorem Lift.of {E0 : Env} {Q : Ex → St → Prop} {e : Exit} {w' : World} {E' : Env} {s' : St} {a' : Act} {y : Ex} (hE : Le E0 E') (H : SRel x w0 N E' s' a' w') (hy : ExR E' y e) (hq : Q y s') : Lift x w0 N E0 Q e a' w' := ⟨E', s', y, hE, H, hy, hq⟩

theorem wanted_spec (H : SRel x w0 N E s a w) {ops : Array Oper} {o : Oper} {b : A} (hc : ckA x.P N ops o b = true) : Region.wanted o (yielded ops a.tmps) = Vs.wanted s.t b.g := by
  simp only [ckA, Bool.and_eq_true] at hc
  obtain ⟨_, hg⟩ := hc
  unfold Region.wanted Vs.wanted
  cases h1 : o.guard with
  | none =>
    rw [h1] at hg
    cases h2 : b.g with
    | none => rfl
    | some g => rw [h2] at hg; simp at hg
  | some jw =>
    obtain ⟨j, wt⟩ := jw
    rw [h1] at hg
    cases h2 : b.g with
    | none => rw [h2] at hg; simp at hg
    | some g =>
      obtain ⟨d, wt'⟩ := g
      rw [h2] at hg
      simp only [Bool.and_eq_true, beq_iff_eq, decide_eq_true_eq] at hg
      obtain ⟨⟨rfl, hd⟩, hj⟩ := hg
      simp only [yielded, hj, Option.bind_some]
      have hv := H.tm d
      have hlt : d < a.tmps.size := by rw [H.sz]; exact hd
      have hget : a.tmps[d]? = some (a.tmps.getD d undef) := by
        simp only [Array.getD_eq_getD_getElem?, Array.getElem?_eq_getElem hlt, Option.getD_some]
      rw [hget]
      generalize a.tmps.getD d undef = u at hv
      generalize s.t d = y at hv
      cases hv <;> simp

/-- One operation. -/
theorem vop_sound (hx : XOk x) (H : SRel x w0 N E s a w) {ops : Array Oper} {o : Oper} {b : A} (hc : ckA x.P N ops o b = true) {Q : Ex → St → Prop} {K : St → Prop} {E0 : Env} (hE0 : Le E0 E) {K' : Act → World → Prop}
    (hK : ∀ E' s' a' w', Le E E' → SRel x w0 N E' s' a' w' → K s' → K' a' w') (h : vop x b Q K s) :
    if Region.wanted o (yielded ops a.tmps) then o.wp x.P a w K' (Lift x w0 N E0 Q) else K' (a.put o.dst undef) w := by
  have hw := wanted_spec H hc
  simp only [ckA, Bool.and_eq_true, beq_iff_eq] at hc
  obtain ⟨⟨⟨hdst, hd⟩, hi⟩, _⟩ := hc
  have hdlt : ∀ k, o.dst = some k → k < N := fun k hk => by
    rw [hdst] at hk
    rw [hk] at hd
    simpa using hd
  rw [hw]
  unfold vop at h
  by_cases hwt : Vs.wanted s.t b.g = true
  · rw [if_pos hwt] at h ⊢
    have hdoes := op_sound (x := x) hx hi o.dst o.type o.pos o.after o.guard H.sr H.gr H.tm
    have ho : ({ dst := o.dst, op := o.op, type := o.type, pos := o.pos, after := o.after, guard := o.guard } : Oper) = o := rfl
    rw [ho] at hdoes
    unfold Oper.wp
    generalize (execOp a.eval o).run x.P w = r at hdoes ⊢
    cases hr : aop x s.t s.h b.i with
    | none => rw [hr] at h; exact h.elim
    | some rz =>
      rw [hr] at h hdoes
      cases rz with
      | val v h' =>
        obtain ⟨u, E', w', hE, rfl, hv, hs⟩ := hdoes
        simp only at h
        rw [← hdst] at h
        exact hK E' _ _ _ hE (H.put hE hs hdlt hv) h
      | skip h' =>
        obtain ⟨E', w', hE, rfl, hs⟩ := hdoes
        simp only at h
        rw [← hdst] at h
        exact hK E' _ _ _ hE (H.put hE hs hdlt (udf_vr E')) h
      | call f args =>
        simp only at h
        obtain ⟨vs, rfl, hvs⟩ := hdoes h.1
        refine (h.2 w0 E w vs H.sr H.gr hvs).mono fun e w' ⟨E', h', r, hE, hs, hr', hk⟩ => ?_
        cases e with
        | returned u =>
          cases r with
          | ret v =>
            simp only at hk
            rw [← hdst] at hk
            exact hK E' _ _ _ hE (H.put hE hs hdlt hr') hk
          | pan v => exact hr'.elim
        | panicked l =>
          cases r with
          | ret v => exact hr'.elim
          | pan v =>
            refine Lift.of (hE0.trans hE) (s' := { s with h := h' }) ?_ (y := .pan v) hr' hk
            exact ⟨hs, H.gr.mono hE, fun n => (H.tm n).mono hE, H.sz, H.df.mono hE⟩
        | outgrown => cases r <;> exact hr'.elim
      | dfr f args =>
        obtain ⟨d, cap, rfl, ht, hvs⟩ := hdoes
        simp only at h
        rw [← hdst] at h
        have hp := H.put (Le.refl E) H.sr hdlt (udf_vr E)
        refine hK E { s with t := Vs.put s.t o.dst udf, d := (f, args) :: s.d } _ _ (Le.refl E) ⟨hp.sr, hp.gr, ?_, ?_, ?_⟩ h
        · intro n
          have h1 := hp.tm n
          have h2 : (Act.put { a with defers := d :: a.defers } o.dst undef).tmps = (a.put o.dst undef).tmps := by cases o.dst <;> rfl
          rw [h2]; exact h1
        · have h2 : (Act.put { a with defers := d :: a.defers } o.dst undef).tmps = (a.put o.dst undef).tmps := by cases o.dst <;> rfl
          rw [h2]; exact hp.sz
        · have h2 : (Act.put { a with defers := d :: a.defers } o.dst undef).defers = d :: a.defers := by cases o.dst <;> rfl
          rw [h2]
          refine ⟨by simp [H.df.1], fun j dd u hd' hu => ?_⟩
          cases j with
          | zero => simp at hd' hu; subst hd'; subst hu; exact ⟨cap, ht, hvs⟩
          | succ j => exact H.df.2 j dd u (by simpa using hd') (by simpa using hu)
      | pan v =>
        obtain ⟨u, rfl, hv⟩ := hdoes
        simp only at h
        exact Lift.of hE0 H (y := .pan v) ⟨u, hv, rfl⟩ h
  · rw [if_neg hwt] at h ⊢
    rw [← hdst] at h
    exact hK E _ _ _ (Le.refl E) (H.put (Le.refl E) H.sr hdlt (udf_vr E)) h

theorem vops_sound (hx : XOk x) {ops : Array Oper} {Q : Ex → St → Prop} {E0 : Env} : ∀ (l : List Oper) (bs : List A) (E : Env) (s : St) (a : Act) (w : World), Le E0 E → ckAs x.P N ops l bs = true → SRel x w0 N E s a w → vops x Q bs s →
    wpList x.P ops (Lift x w0 N E0 Q) l a w
  | [], [], E, s, a, w, hE, _, H, h => Lift.of hE H (y := .normal) trivial h
  | o :: l, b :: bs, E, s, a, w, hE, hc, H, h => by
    simp only [ckAs, Bool.and_eq_true] at hc
    have := vop_sound (K' := wpList x.P ops (Lift x w0 N E0 Q) l) hx H hc.1 hE (fun E' s' a' w' hE' H' hk => vops_sound hx l bs E' s' a' w' (hE.trans hE') hc.2 H' hk) h
    unfold wpList
    split
    · rename_i hw; rw [if_pos hw] at this; exact .inl this
    · rename_i hw; rw [if_neg hw] at this; exact this
  | [], _ :: _, _, _, _, _, _, hc, _, _ => by simp [ckAs] at hc
  | _ :: _, [], _, _, _, _, _, hc, _, _ => by simp [ckAs] at hc

/-! ### whatever order -/
def vAny (x : X) (ops : Array Oper) (as : List A) (Q : Ex → St → Prop) : Nat → Array Bool → St → Prop
  | 0, listed, s => Region.ready .any ops listed = [] ∧ Q .normal s
  | f + 1, listed, s => (Region.ready .any ops listed = [] → Q .normal s) ∧ ∀ i ∈ Region.ready .any ops listed, ∃ b, as[i]? = some b ∧ vopD x b Q (vAny x ops as Q f (listed.setIfInBounds i true)) s

theorem vop_mono {o : A} {Q Q' : Ex → St → Prop} {K K' : St → Prop} {s : St} (hq : ∀ v s, Q (.pan v) s → Q' (.pan v) s) (hk : ∀ s, K s → K' s) (h : vop x o Q K s) : vop x o Q' K' s := by
  unfold vop at h ⊢
  split at h
  · rename_i hw
    rw [if_pos hw]
    cases hr : aop x s.t s.h o.i with
    | none => rw [hr] at h; exact h
    | some rz =>
      rw [hr] at h
      cases rz with
      | val v h' => exact hk _ h
      | skip h' => exact hk _ h
      | call f args => exact ACalls.mono h fun r h' hh => by cases r <;> first | exact hk _ hh | exact hq _ _ hh
      | dfr f args => exact hk _ h
      | pan v => exact hq _ _ h
  · rename_i hw
    rw [if_neg hw]
    exact hk _ h

theorem vopD_vop {o : A} {Q : Ex → St → Prop} {K : St → Prop} {s : St} (h : vopD x o Q K s) : vop x o Q K s := by
  refine vop_mono (fun v s' hq => ?_) (fun _ h => h) h
  have := hq s'.t
  exact this

theorem vAny_sound (hx : XOk x) {ops : Array Oper} {as : List A} {Q : Ex → St → Prop} {E0 : Env} (hc : ∀ (i : Nat) o b, ops[i]? = some o → as[i]? = some b → ckA x.P N ops o b = true) : ∀ (f : Nat) (listed : Array Bool) (E : Env) (s : St) (a : Act) (w : World), Le E0 E → SRel x w0 N E s a w →
    vAny x ops as Q f listed s → wpAny x.P .any ops (Lift x w0 N E0 Q) f listed a w
  | 0, _, _, _, _, _, hE, H, h => ⟨h.1, Lift.of hE H (y := .normal) trivial h.2⟩
  | f + 1, listed, E, s, a, w, hE, H, h => ⟨fun h0 => Lift.of hE H (y := .normal) trivial (h.1 h0), fun i hi => by
      obtain ⟨b, hb, hv⟩ := h.2 i hi
      obtain ⟨_, o, ho, _⟩ := mem_ready.1 hi
      have := vop_sound (K' := wpAny x.P .any ops (Lift x w0 N E0 Q) f (listed.setIfInBounds i true)) hx H (hc i o b ho hb) hE (fun E' s' a' w' hE' H' hk => vAny_sound hx hc f _ E' s' a' w' (hE.trans hE') H' hk) (vopD_vop hv)
      unfold wpOp
      simp only [ho]
      split
      · rename_i hw; rw [if_pos hw] at this; exact .inl this
      · rename_i hw; rw [if_neg hw] at this; exact this⟩

/-- What an operation that leaves the heap alone yields. -/
def Yv (x : X) (b : A) (v : V) (s : St) : Prop := (Vs.wanted s.t b.g = true ∧ aop x s.t s.h b.i = some (.val v s.h)) ∨ (Vs.wanted s.t b.g = false ∧ v = udf)

theorem wanted_congr {t t' : Nat → V} {b : A} (h : ∀ n ∈ b.looks, t n = t' n) : Vs.wanted t b.g = Vs.wanted t' b.g := by
  unfold Vs.wanted
  cases hg : b.g with
  | none => rfl
  | some g =>
    obtain ⟨d, w⟩ := g
    simp only
    rw [h d (by simp [A.looks, hg])]

theorem put_look {t : Nat → V} {b : A} {d : Option Nat} {v : V} (h : ∀ k, d = some k → k ∉ b.looks) : ∀ n ∈ b.looks, put t d v n = t n := by
  intro n hn
  cases d with
  | none => rfl
  | some k =>
    simp only [put]
    rw [if_neg (fun (e : n = k) => h k rfl (e ▸ hn))]

theorem apartA_spec {a b : A} (h : apartA a b = true) : (∀ d, a.dst = some d → d ∉ b.looks) ∧ (∀ d, a.dst = some d → b.dst ≠ some d) ∧ (∀ d, b.dst = some d → d ∉ a.looks) := by
  simp only [apartA, Bool.and_eq_true] at h
  refine ⟨fun d hd => ?_, fun d hd => ?_, fun d hd => ?_⟩ <;> simp [hd] at h
  · exact h.1.1
  · exact h.1.2
  · exact h.2

theorem put_comm {t : Nat → V} {a b : Option Nat} {v u : V} (h : ∀ d, a = some d → b ≠ some d) : put (put t a v) b u = put (put t b u) a v := by
  cases a with
  | none => rfl
  | some d =>
    cases b with
    | none => rfl
    | some e =>
      have hne : e ≠ d := fun e' => h d rfl (by rw [e'])
      funext n
      simp only [put]
      by_cases h1 : n = e
      · rw [if_pos h1, if_neg (by omega), if_pos h1]
      · rw [if_neg h1]
        by_cases h2 : n = d
        · rw [if_pos h2, if_pos h2]
        · rw [if_neg h2, if_neg h2, if_neg h1]

theorem Yv.keep {b c : A} {v u : V} {s : St} {h' : Hp} {dd : List (FuncId × List V)} (hy : Yv x b v s) (ha : ∀ d, c.dst = some d → d ∉ b.looks) (hh : h' = s.h ∨ b.i.silent = true) : Yv x b v { t := put s.t c.dst u, h := h', d := dd } := by
  have hl := put_look (t := s.t) (v := u) (b := b) ha
  have hw : Vs.wanted (put s.t c.dst u) b.g = Vs.wanted s.t b.g := wanted_congr hl
  have ha2 : ∀ h, aop x (put s.t c.dst u) h b.i = aop x s.t h b.i := fun h => aop_congr fun n hn => hl n (by simp [A.looks, hn])
  rcases hy with ⟨h1, h2⟩ | ⟨h1, h2⟩
  · refine .inl ⟨by rw [hw]; exact h1, ?_⟩
    rw [ha2]
    rcases hh with rfl | hs
    · exact h2
    · rw [silent_eq hs] at h2 ⊢
      simp only [Option.map_eq_some_iff, Rz.val.injEq] at h2 ⊢
      obtain ⟨v', e1, e2, _⟩ := h2
      exact ⟨v', e1, e2, trivial⟩
  · exact .inr ⟨by rw [hw]; exact h1, h2⟩

/-- Operation j, apart from i: whether i's value is there already makes no difference to it, and it makes none to i. -/
theorem vop_put {bi bj : A} {v : V} {s : St} {Q : Ex → St → Prop} {K : St → Prop} (hap : apartA bi bj = true) (hcl : (bi.i.silent || (bi.i.reads && bj.i.reads)) = true) (hy : Yv x bi v s) (h : vopD x bj Q K { s with t := put s.t bi.dst v }) :
    vopD x bj Q (fun s' => Yv x bi v s' ∧ K { s' with t := put s'.t bi.dst v }) s := by
  obtain ⟨a1, a2, a3⟩ := apartA_spec hap
  have hl := put_look (t := s.t) (v := v) (b := bj) a1
  have hw : Vs.wanted (put s.t bi.dst v) bj.g = Vs.wanted s.t bj.g := wanted_congr hl
  have ha : aop x (put s.t bi.dst v) s.h bj.i = aop x s.t s.h bj.i := aop_congr fun n hn => hl n (by simp [A.looks, hn])
  unfold vopD vop at h ⊢
  simp only [hw, ha] at h
  by_cases hwt : Vs.wanted s.t bj.g = true
  · rw [if_pos hwt] at h ⊢
    have hsame : ∀ rz, aop x s.t s.h bj.i = some rz → bi.i.silent = true ∨ ∃ u, rz = .val u s.h := fun rz hr => by
      rw [Bool.or_eq_true, Bool.and_eq_true] at hcl
      rcases hcl with hs | ⟨_, hr2⟩
      · exact .inl hs
      · exact .inr (reads_eq hr2 hr)
    cases hr : aop x s.t s.h bj.i with
    | none => rw [hr] at h; exact h
    | some rz =>
      rw [hr] at h
      have hs := hsame rz hr
      cases rz with
      | val u h' =>
        simp only at h ⊢
        refine ⟨hy.keep a3 ?_, ?_⟩
        · rcases hs with hs | ⟨u', hu⟩
          · exact .inr hs
          · cases hu; exact .inl rfl
        · rw [put_comm (fun d hd => a2 d hd)] at h; exact h
      | skip h' =>
        simp only at h ⊢
        refine ⟨hy.keep a3 ?_, ?_⟩
        · rcases hs with hs | ⟨u', hu⟩
          · exact .inr hs
          · cases hu
        · rw [put_comm (fun d hd => a2 d hd)] at h; exact h
      | call f args =>
        simp only at h ⊢
        have hsil : bi.i.silent = true := by
          rcases hs with hs | ⟨u', hu⟩
          · exact hs
          · cases hu
        refine ACalls.mono h fun r h' hh => ?_
        cases r with
        | ret u =>
          refine ⟨hy.keep a3 (.inr hsil), ?_⟩
          have hh' : K { s with t := put (put s.t bi.dst v) bj.dst u, h := h' } := hh
          rw [put_comm (fun d hd => a2 d hd)] at hh'; exact hh'
        | pan u => exact hh
      | dfr f args =>
        simp only at h ⊢
        refine ⟨hy.keep a3 (.inl rfl), ?_⟩
        rw [put_comm (fun d hd => a2 d hd)] at h; exact h
      | pan u => exact h
  · rw [if_neg hwt] at h ⊢
    refine ⟨hy.keep a3 (.inl rfl), ?_⟩
    rw [put_comm (fun d hd => a2 d hd)] at h; exact h

theorem Yv.vop {b : A} {v : V} {s : St} {Q : Ex → St → Prop} {K : St → Prop} (hy : Yv x b v s) (h : K { s with t := put s.t b.dst v }) : vopD x b Q K s := by
  unfold vopD Vs.vop
  rcases hy with ⟨h1, h2⟩ | ⟨h1, rfl⟩
  · rw [if_pos h1, h2]; exact h
  · rw [if_neg (by rw [h1]; simp)]; exact h

theorem vAny_first {ops : Array Oper} {as : List A} {Q : Ex → St → Prop} {i : Nat} {bi : A} {v : V} (hi : as[i]? = some bi) : ∀ (f : Nat) (listed : Array Bool) (s : St),
    (∀ j oj, ops[j]? = some oj → j ≠ i → listed.getD j true = false → (∀ e ∈ oj.after, Region.binds .any e = true → e.on ≠ i) → ∀ bj, as[j]? = some bj → apartA bi bj = true ∧ (bi.i.silent || (bi.i.reads && bj.i.reads)) = true) →
    i ∈ Region.ready .any ops listed → Yv x bi v s → vAny x ops as Q f (listed.setIfInBounds i true) { s with t := put s.t bi.dst v } → vAny x ops as Q (f + 1) listed s := by
  intro f
  induction f with
  | zero =>
    intro listed s _ hr hy H
    refine ⟨fun h => (by rw [h] at hr; cases hr), fun j hj => ?_⟩
    by_cases hji : j = i
    · subst hji; exact ⟨bi, hi, hy.vop H⟩
    · have := ready_mono hj hji
      rw [H.1] at this
      cases this
  | succ f ih =>
    intro listed s hfree hr hy H
    refine ⟨fun h => (by rw [h] at hr; cases hr), fun j hj => ?_⟩
    by_cases hji : j = i
    · subst hji; exact ⟨bi, hi, hy.vop H⟩
    · obtain ⟨bj, hbj, h1⟩ := H.2 j (ready_mono hj hji)
      obtain ⟨hjun, oj, hoj, hall⟩ := mem_ready.1 hj
      have hnot : ∀ e ∈ oj.after, Region.binds .any e = true → e.on ≠ i := fun e he hb heq => by
        have h1 := hall e he hb
        have h0 := (mem_ready.1 hr).1
        rw [heq] at h1
        rcases Nat.lt_or_ge i listed.size with h' | h'
        · simp [h'] at h0 h1; rw [h0] at h1; cases h1
        · simp [Array.getElem?_eq_none h'] at h1
      obtain ⟨hap, hcl⟩ := hfree j oj hoj hji hjun hnot bj hbj
      have h2 := vop_put hap hcl hy h1
      have hfree' : ∀ k ok, ops[k]? = some ok → k ≠ i → (listed.setIfInBounds j true).getD k true = false →
          (∀ e ∈ ok.after, Region.binds .any e = true → e.on ≠ i) → ∀ bk, as[k]? = some bk → apartA bi bk = true ∧ (bi.i.silent || (bi.i.reads && bk.i.reads)) = true := fun k ok hk hki hun hno => by
        refine hfree k ok hk hki ?_ hno
        by_cases hjk : j = k
        · subst hjk; exact hjun
        · rw [getD_set_ne true hjk] at hun; exact hun
      refine ⟨bj, hbj, vop_mono (fun _ _ h => h) (fun s' h3 => ih (listed.setIfInBounds j true) s' hfree' (ready_mono hr (Ne.symm hji)) h3.1 ?_) h2⟩
      rw [Array.setIfInBounds_comm _ _ hji]
      exact h3.2

theorem freeOk_spec {ops : Array Oper} {as : List A} {listed : Array Bool} {i : Nat} {bi : A} (hi : as[i]? = some bi) (h : freeOk ops as listed i = true) :
    ∀ j oj, ops[j]? = some oj → j ≠ i → listed.getD j true = false → (∀ e ∈ oj.after, Region.binds .any e = true → e.on ≠ i) → ∀ bj, as[j]? = some bj → apartA bi bj = true ∧ (bi.i.silent || (bi.i.reads && bj.i.reads)) = true := by
  intro j oj hoj hji hun hno bj hbj
  unfold freeOk at h
  rw [hi] at h
  simp only [List.all_eq_true, List.mem_range] at h
  have hlt : j < ops.size := (Array.getElem?_eq_some_iff.1 hoj).1
  have hj := h j hlt
  rw [Bool.or_eq_true, Bool.or_eq_true, Bool.or_eq_true] at hj
  rcases hj with ((hj | hj) | hj) | hj
  · exact absurd (by simpa using hj) hji
  · rw [hun] at hj; cases hj
  · rw [hoj] at hj
    simp only [Option.map_some, Option.getD_some, List.any_eq_true] at hj
    obtain ⟨e, he, hb⟩ := hj
    have he := Array.mem_toList_iff.1 he
    simp only [Bool.and_eq_true, beq_iff_eq] at hb
    exact absurd hb.2 (hno e he hb.1)
  · rw [hbj] at hj
    simpa using hj

theorem vop_yv {b : A} {Q : Ex → St → Prop} {K : St → Prop} {s : St} (hr : b.i.reads = true) (h : vopD x b Q K s) : ∃ v, Yv x b v s ∧ K { s with t := put s.t b.dst v } := by
  unfold vopD vop at h
  by_cases hw : Vs.wanted s.t b.g = true
  · rw [if_pos hw] at h
    cases ha : aop x s.t s.h b.i with
    | none => rw [ha] at h; exact h.elim
    | some rz =>
      obtain ⟨v, rfl⟩ := reads_eq hr ha
      rw [ha] at h
      exact ⟨v, .inl ⟨hw, ha⟩, h⟩
  · rw [if_neg hw] at h
    exact ⟨udf, .inr ⟨by simpa using hw, rfl⟩, h⟩

theorem vD_any {ops : Array Oper} {as : List A} {Q : Ex → St → Prop} : ∀ (d : D) (f : Nat) (listed : Array Bool) (s : St), (ckD ops as f listed none d = true → vD x as Q d s → vAny x ops as Q f listed s) ∧
    ∀ ks, ckD ops as (f + 1) listed (some ks) d = true → vD x as Q d s → ∀ i ∈ ks, ∃ b, as[i]? = some b ∧ vopD x b Q (vAny x ops as Q f (listed.setIfInBounds i true)) s := by
  intro d
  induction d with
  | done =>
    intro f listed s
    refine ⟨fun hc h => ?_, fun ks hc => by cases ks <;> simp [ckD] at hc⟩
    have h0 : Region.ready .any ops listed = [] := by cases f <;> simpa [ckD] using hc
    cases f with
    | zero => exact ⟨h0, h⟩
    | succ f => exact ⟨fun _ => h, fun i hi => by rw [h0] at hi; cases hi⟩
  | free i r ih =>
    intro f listed s
    refine ⟨fun hc h => ?_, fun ks hc => by cases ks <;> simp [ckD] at hc⟩
    cases f with
    | zero => simp [ckD] at hc
    | succ f =>
      simp only [ckD, Bool.and_eq_true] at hc
      obtain ⟨⟨⟨h1, h2⟩, h3⟩, h4⟩ := hc
      simp only [vD] at h
      cases hb : as[i]? with
      | none => rw [hb] at h; exact h.elim
      | some b =>
        rw [hb] at h h2
        obtain ⟨v, hy, hk⟩ := vop_yv (by simpa using h2) h
        exact vAny_first hb f listed s (freeOk_spec hb h3) (by simpa using h1) hy ((ih f _ _).1 h4 hk)
  | cho i r o ihr iho =>
    intro f listed s
    refine ⟨fun hc h => ?_, fun ks hc h => ?_⟩
    · cases f with
      | zero => simp [ckD] at hc
      | succ f =>
        simp only [ckD] at hc
        split at hc
        · cases hc
        · rename_i k ks hks
          simp only [Bool.and_eq_true, beq_iff_eq] at hc
          obtain ⟨⟨rfl, h1⟩, h2⟩ := hc
          refine ⟨fun h0 => (by rw [hks] at h0; cases h0), fun j hj => ?_⟩
          rw [hks] at hj
          simp only [vD] at h
          cases hj with
          | head =>
            cases hb : as[k]? with
            | none => rw [hb] at h; exact h.1.elim
            | some b =>
              rw [hb] at h
              exact ⟨b, rfl, vop_mono (fun _ _ h => h) (fun s' hs' => (ihr f _ s').1 h1 hs') h.1⟩
          | tail _ hj => exact (iho f listed s).2 ks h2 h.2 j hj
    · cases ks with
      | nil => simp [ckD] at hc
      | cons k ks =>
        simp only [ckD, Bool.and_eq_true, beq_iff_eq] at hc
        obtain ⟨⟨rfl, h1⟩, h2⟩ := hc
        simp only [vD] at h
        intro j hj
        cases hj with
        | head =>
          cases hb : as[k]? with
          | none => rw [hb] at h; exact h.1.elim
          | some b =>
            rw [hb] at h
            exact ⟨b, rfl, vop_mono (fun _ _ h => h) (fun s' hs' => (ihr f _ s').1 h1 hs') h.1⟩
        | tail _ hj => exact (iho f listed s).2 ks h2 h.2 j hj
  | nope =>
    intro f listed s
    refine ⟨fun hc => by cases f <;> simp [ckD] at hc, fun ks hc h i hi => ?_⟩
    cases ks with
    | nil => cases hi
    | cons k ks => simp [ckD] at hc

theorem ckAs_get {P : Program} {ops : Array Oper} : ∀ {l : List Oper} {as : List A}, ckAs P N ops l as = true → ∀ (i : Nat) o b, l[i]? = some o → as[i]? = some b → ckA P N ops o b = true
  | o :: l, b :: as, h, i, o', b', ho, hb => by
    simp only [ckAs, Bool.and_eq_true] at h
    cases i with
    | zero => simp at ho hb; subst ho; subst hb; exact h.1
    | succ i => exact ckAs_get h.2 i o' b' (by simpa using ho) (by simpa using hb)
  | [], [], _, i, o, b, ho, _ => by simp at ho
  | [], _ :: _, h, _, _, _, _, _ => by simp [ckAs] at h
  | _ :: _, [], h, _, _, _, _, _ => by simp [ckAs] at h

theorem SRel.drew (H : SRel x w0 N E s a w) : SRel x w0 N E s a w.drew := ⟨H.sr.drew, H.gr, H.tm, H.sz, H.df⟩

/-- A loop with a number that every round lowers. -/
theorem wp_loop_num {P : Program} {Q : Exit → Act → World → Prop} {c : Code} (I : Nat → Act → World → Prop) {n : Nat} (h0 : I n a w) (round : ∀ n a w, I n a w → c.wp P (Exit.then (fun a' w' => ∃ m, m < n ∧ I m a' w') Q) a w) : (Code.loop c).wp P Q a w := by
  intro b k cs
  have key : ∀ n a w, I n a w → ∃ e a' w', Q e a' w' ∧ Arrives P (lone (b.at a (.code c :: .inLoop c :: k)) cs w) b k cs e a' w' := by
    intro n
    induction n using Nat.strongRecOn with
    | _ n ih =>
      intro a w hI
      obtain ⟨e, a₁, w₁, hq, harr⟩ := round n a w hI b (.inLoop c :: k) cs
      cases e with
      | normal =>
        obtain ⟨m, hlt, hI₁⟩ := hq
        obtain ⟨e₂, a₂, w₂, hq₂, harr₂⟩ := ih m hlt a₁ w₁ hI₁
        exact ⟨e₂, a₂, w₂, hq₂, .of_steps (Steps.trans harr (.one step_inLoop)) harr₂⟩
      | exit id => exact ⟨_, a₁, w₁, hq, .pass (x := .inLoop c) rfl (fun _ _ => .inl (by simp)) harr⟩
      | goto l => exact ⟨_, a₁, w₁, hq, .pass (x := .inLoop c) rfl (fun _ _ => .inl (by simp)) harr⟩
      | ret => exact ⟨_, a₁, w₁, hq, .pass (x := .inLoop c) rfl (fun _ _ => .inl (by simp)) harr⟩
      | panic ch => exact ⟨_, a₁, w₁, hq, .pass (x := .inLoop c) rfl (fun _ _ => .inl (by simp)) harr⟩
      | outgrown => exact ⟨_, a₁, w₁, hq, .pass (x := .inLoop c) rfl (fun _ _ => .inl (by simp)) harr⟩
  obtain ⟨e, a', w', hq, harr⟩ := key n a w h0
  exact ⟨e, a', w', hq, .of_steps (.one step_loop) harr⟩

theorem vc_sound (hx : XOk x) : ∀ (c : Code) (d : C) (Q : Ex → St → Prop) (E0 E : Env) (s : St) (a : Act) (w : World), ckC x.P N c d = true → Le E0 E → SRel x w0 N E s a w → vc x d Q s → c.wp x.P (Lift x w0 N E0 Q) a w := by
  intro c
  induction c with
  | skip =>
    intro d Q E0 E s a w hc hE H h
    cases d <;> (try exact False.elim h) <;> simp [ckC] at hc
    exact wp_skip (Lift.of hE H (y := .normal) trivial h)
  | region id ops draw =>
    intro d Q E0 E s a w hc hE H h
    cases draw with
    | false =>
      cases d <;> (try exact False.elim h) <;> simp [ckC] at hc
      exact wp_region_list (vops_sound hx _ _ E s a w hE hc H h)
    | true =>
      cases d <;> (try exact False.elim h) <;> simp only [ckC, Bool.and_eq_true] at hc <;> try (cases hc; done)
      obtain ⟨⟨h1, h2⟩, h3⟩ := hc
      refine wp_region_any h3 ?_
      exact vAny_sound hx (fun i o b ho hb => ckAs_get h1 i o b (by simpa using ho) hb) _ _ E s a _ hE H.drew ((vD_any _ _ _ s).1 h2 h)
  | seq p q ihp ihq =>
    intro d Q E0 E s a w hc hE H h
    cases d <;> (try exact False.elim h) <;> simp only [ckC, Bool.and_eq_true] at hc <;> try (cases hc; done)
    refine wp_seq (wp_mono (ihp _ _ E0 E s a w hc.1 hE H h) fun e a' w' ⟨E', s', y, hE', H', hy, hq⟩ => ?_)
    cases y with
    | normal => cases e <;> first | exact hy.elim | exact ihq _ Q E0 E' s' a' w' hc.2 hE' H' hq
    | _ => cases e <;> first | exact hy.elim | exact ⟨E', s', _, hE', H', hy, hq⟩
  | cond o p q ihp ihq =>
    intro d Q E0 E s a w hc hE H h
    cases d <;> (try exact False.elim h) <;> simp only [ckC, Bool.and_eq_true] at hc <;> try (cases hc; done)
    obtain ⟨⟨h1, h2⟩, h3⟩ := hc
    have hv := ckO_spec (x := x) H.gr H.tm h1
    simp only [vc] at h
    generalize hu : a.eval o = u at hv
    split at h
    · rename_i hb
      rw [hb] at hv
      cases hv
      exact wp_cond_true hu (ihp _ _ E0 E s a w h2 hE H h)
    · rename_i hb
      rw [hb] at hv
      cases hv
      exact wp_cond_false hu (ihq _ _ E0 E s a w h3 hE H h)
    · exact h.elim
  | block id p ih =>
    intro d Q E0 E s a w hc hE H h
    cases d <;> (try exact False.elim h) <;> simp only [ckC, Bool.and_eq_true, beq_iff_eq] at hc <;> try (cases hc; done)
    obtain ⟨rfl, hc⟩ := hc
    refine wp_block (wp_mono (ih _ _ E0 E s a w hc hE H h) fun e a' w' ⟨E', s', y, hE', H', hy, hq⟩ => ?_)
    cases y with
    | exit i =>
      cases e with
      | exit j =>
        have hij : i = j := hy
        subst hij
        simp only [Exit.inBlock]
        simp only at hq
        split at hq
        · rename_i hi; rw [if_pos hi]; exact ⟨E', s', .normal, hE', H', trivial, hq⟩
        · rename_i hi; rw [if_neg hi]; exact ⟨E', s', .exit i, hE', H', rfl, hq⟩
      | _ => exact hy.elim
    | _ => cases e <;> first | exact hy.elim | exact ⟨E', s', _, hE', H', hy, hq⟩
  | loop p ih =>
    intro d Q E0 E s a w hc hE H h
    cases d <;> (try exact False.elim h) <;> simp only [ckC] at hc <;> try (cases hc; done)
    obtain ⟨I, ⟨n, hn⟩, hround⟩ := h
    refine wp_loop_num (fun n a w => ∃ E' s', Le E0 E' ∧ SRel x w0 N E' s' a w ∧ I n s') ⟨E, s, hE, H, hn⟩ fun n a w ⟨E1, s1, hE1, H1, hI⟩ => ?_
    refine wp_mono (ih _ _ E0 E1 s1 a w hc hE1 H1 (hround n s1 hI)) fun e a' w' ⟨E', s', y, hE', H', hy, hq⟩ => ?_
    cases y with
    | normal =>
      cases e <;> try (exact hy.elim)
      obtain ⟨m, hm, hI'⟩ := hq
      exact ⟨m, hm, E', s', hE', H', hI'⟩
    | _ => cases e <;> first | exact hy.elim | exact ⟨E', s', _, hE', H', hy, hq⟩
  | exit i =>
    intro d Q E0 E s a w hc hE H h
    cases d <;> (try exact False.elim h) <;> simp [ckC] at hc
    subst hc
    exact wp_exit (Lift.of hE H (y := .exit i) rfl h)
  | ret =>
    intro d Q E0 E s a w hc hE H h
    cases d <;> (try exact False.elim h) <;> simp [ckC] at hc
    exact wp_ret (Lift.of hE H (y := .ret) trivial h)
  | _ =>
    intro d Q E0 E s a w hc hE H h
    cases d <;> (try exact False.elim h) <;> simp [ckC] at hc
end
end Go.Vs
