/- What is shown of the plain data holds of the machine. -/
import Derived.Test.YtfinnljkcgglfaaDoorZv2
set_option linter.unusedSimpArgs false
set_option linter.unusedVariables false
namespace Go.Vs
open Go.RowKit

def DR (E : Env) (ds : List (FuncId × List V)) (us : List Deferred) : Prop := us.length = ds.length ∧ ∀ (j : Nat) d u, ds[j]? = some d → us[j]? = some u → ∃ cap, u.target = .fn (.func d.1) cap ∧ VRs E d.2 (u.args ++ cap)

theorem VRs.mono {E E' : Env} (hE : Le E E') {xs : List V} {vs : Array Value} (h : VRs E xs vs) : VRs E' xs vs := ⟨h.1, fun j x v hx hv => (h.2 j x v hx hv).mono hE⟩
theorem DR.mono {E E' : Env} (hE : Le E E') {ds : List (FuncId × List V)} {us : List Deferred} (h : DR E ds us) : DR E' ds us :=
  ⟨h.1, fun j d u hd hu => let ⟨cap, h1, h2⟩ := h.2 j d u hd hu; ⟨cap, h1, h2.mono hE⟩⟩

structure SRel (x : X) (w0 : World) (N : Nat) (E : Env) (s : St) (a : Act) (w : World) : Prop where
  sr : SR w0 E s.h w
  gr : GR x E
  tm : ∀ n, VR E (s.t n) (a.tmps.getD n undef)
  sz : a.tmps.size = N
  df : DR E s.d a.defers

def ExR (E : Env) : Ex → Exit → Prop
  | .normal, .normal => True
  | .exit i, .exit j => i = j
  | .ret, .ret => True
  | .pan x, .panic l => ∃ v, VR E x v ∧ l = [entry v]
  | _, _ => False

def Lift (x : X) (w0 : World) (N : Nat) (E : Env) (Q : Ex → St → Prop) : Exit → Act → World → Prop := fun e a w => ∃ E' s y, Le E E' ∧ SRel x w0 N E' s a w ∧ ExR E' y e ∧ Q y s

/-- An operation of a region, and the one that is told. -/
def ckA (P : Program) (N : Nat) (ops : Array Oper) (o : Oper) (b : A) : Bool :=
  o.dst == b.dst && (match b.dst with | some d => decide (d < N) | none => true) && ckI P o.op b.i &&
  (match o.guard, b.g with
   | none, none => true
   | some (j, w), some (d, w') => w == w' && decide (d < N) && ((ops[j]?).bind (·.dst)) == some d
   | _, _ => false)

def ckAs (P : Program) (N : Nat) (ops : Array Oper) : List Oper → List A → Bool
  | [], [] => true
  | o :: r, b :: s => ckA P N ops o b && ckAs P N ops r s
  | _, _ => false

def apartA (a b : A) : Bool := (match a.dst with
    | some d => !b.looks.contains d && b.dst != some d
    | none => true) && (match b.dst with
    | some d => !a.looks.contains d
    | none => true)

/-- Operation i may be taken first: what has not come up yet, and does not wait for it, is apart from it. -/
def freeOk (ops : Array Oper) (as : List A) (listed : Array Bool) (i : Nat) : Bool := match as[i]? with
  | none => false
  | some a => (List.range ops.size).all fun j => j == i || listed.getD j true || ((ops[j]?).map fun o => o.after.toList.any fun e => Region.binds .any e && e.on == i).getD true ||
      (match as[j]? with
       | none => false
       | some b => apartA a b && (a.i.silent || (a.i.reads && b.i.reads)))

/-- What waits for operation j, in the end. -/
def ancs (ops : Array Oper) (j : Nat) : List Nat := (List.range ops.size).foldl (fun acc k => if ((ops[k]?).map fun o => o.after.toList.any fun e => Region.binds .any e && (e.on == j || acc.contains e.on)).getD false then k :: acc else acc) []

def listAll (listed : Array Bool) : List Nat → Array Bool
  | [] => listed
  | i :: r => listAll (listed.setIfInBounds i true) r

/-- In this order each one's turn comes. -/
def ordOk (ops : Array Oper) (listed : Array Bool) : List Nat → List Nat → Bool
  | _, [] => true
  | prev, i :: r => ((ops[i]?).map fun o => o.after.toList.all fun e => !(Region.binds .any e) || listed.getD e.on false || prev.contains e.on).getD false && ordOk ops listed (i :: prev) r

/-- These come first, all of them, in whatever order; each finds what it looks at. -/
def comOk (ops : Array Oper) (as : List A) (listed : Array Bool) (l : List Nat) : Bool :=
  let tb := l.map fun i => (i, ancs ops i)
  decide l.Nodup &&
  l.all (fun i => !(listed.getD i true) && (dstOf as i).isSome && decide (i < ops.size)) &&
  (List.range ops.size).all (fun k => listed.getD k true || l.contains k || tb.all fun p => p.2.contains k) &&
  tb.all (fun p => p.2.all fun k => !(listed.getD k true) && ((ops[k]?).map fun o => o.after.toList.any fun e => Region.binds .any e && (e.on == p.1 || p.2.contains e.on)).getD false) &&
  tb.all (fun p => l.all fun i => i == p.1 || (dstOf as i != dstOf as p.1 && (p.2.contains i || ((as[i]?).map fun o => !(o.looks.contains ((dstOf as p.1).getD 0))).getD false))) &&
  l.all (fun i => ((as[i]?).map fun o => !(o.looks.contains ((dstOf as i).getD 0))).getD false) && ordOk ops listed [] l

def ckD (ops : Array Oper) (as : List A) : Nat → Array Bool → Option (List Nat) → D → Bool
  | _, listed, none, .done => (Region.ready .any ops listed).isEmpty
  | f + 1, listed, none, .free i r => (Region.ready .any ops listed).contains i && (as[i]?).any (·.i.reads) && freeOk ops as listed i && ckD ops as f (listed.setIfInBounds i true) none r
  | f + 1, listed, none, .cho i r o => (match Region.ready .any ops listed with
    | [] => false
    | k :: ks => k == i && ckD ops as f (listed.setIfInBounds i true) none r && ckD ops as (f + 1) listed (some ks) o)
  | f + 1, listed, some (k :: ks), .cho i r o => k == i && ckD ops as f (listed.setIfInBounds i true) none r && ckD ops as (f + 1) listed (some ks) o
  | f, listed, none, .com l r => comOk ops as listed l && decide (l.length ≤ f) && ckD ops as (f - l.length) (listAll listed l) none r
  | _, _, some [], .nope => true
  | _, _, _, _ => false

/-- i waits for j. -/
def waits (ops : Array Oper) (i j : Nat) : Bool := (ancs ops j).contains i

def linOk (ops : Array Oper) (as : List A) (L : List Nat) : List (Nat × Bool) → List (Nat × Option (List Nat)) → Bool
  | _, [] => true
  | pv, (i, k) :: r => (match as[i]? with
    | none => false
    | some o => (match k with
       | none => pv.all (fun j => match as[j.1]? with
        | some b => (match o.dst with
          | some d => b.dst != some d && !b.looks.contains d
          | none => true)
        | none => false) && o.dst.isSome && (nd as L i).isEmpty && (match o.dst with
         | some d => !o.looks.contains d
         | none => true)
       | some re => pv.all (fun j => waits ops i j.1 || (!j.2 && re.contains j.1)) && r.all fun q => waits ops q.1 i)) &&
    linOk ops as L ((i, k.isSome) :: pv) r

/-- Who looks at a new block. -/
def usr (ops : Array Oper) (as : List A) (L : List Nat) (p : Nat) : Nat := (((List.range ops.size).filter fun i => (nd as L i).contains p).head?).getD 0

def lateOk (ops : Array Oper) (as : List A) (L : List Nat) : Bool :=
  decide L.Nodup && L.all (fun p => (match as[p]? with
      | some ⟨some d, .new _ _, none⟩ => (List.range as.length).all fun j => j == p || dstOf as j != some d
      | _ => false) &&
    (match (List.range ops.size).filter fun i => (nd as L i).contains p with
      | [u] => u == usr ops as L p && !L.contains u && (ancs ops p).contains u
      | _ => false))

/-- One order stands for all orders. -/
def ckLin (ops : Array Oper) (as : List A) (L : List Nat) (l : List (Nat × Option (List Nat))) : Bool :=
  let os := l.map (·.1)
  decide os.Nodup && decide (as.length = ops.size) && lateOk ops as L && L.all (fun i => decide (i < ops.size)) &&
  os.all (fun i => decide (i < ops.size) && !L.contains i) &&
  l.all (fun q => q.2.isSome || ((as[q.1]?).map fun o => (match o.dst with
    | some d => !o.looks.contains d
    | none => true)).getD false) &&
  (List.range ops.size).all (fun i => L.contains i || os.contains i) &&
  ordOk ops (Array.replicate ops.size false) [] (L ++ os) &&
  (List.range ops.size).all (fun j => (ancs ops j).all fun k => decide (k < ops.size) && ((ops[k]?).map fun o => o.after.toList.any fun e => Region.binds .any e && (e.on == j || (ancs ops j).contains e.on)).getD false) &&
  os.all (fun i => l.all fun q => q.2.isSome || i == q.1 || (match as[i]?, dstOf as q.1 with
    | some o, some d => !o.looks.contains d || waits ops i q.1
    | _, _ => true)) &&
  linOk ops as L [] l

def ckC (P : Program) (N : Nat) : Code → C → Bool
  | .skip, .skip => true
  | .region _ ops false, .reg as => ckAs P N ops ops.toList as
  | .region _ ops true, .dreg as (.lin L l) => ckAs P N ops ops.toList as && ckLin ops as L l && P.follows .mixedOrders
  | .region _ ops true, .dreg as d => ckAs P N ops ops.toList as && ckD ops as ops.size (Array.replicate ops.size false) none d && P.follows .mixedOrders
  | .seq a b, .seq c d => ckC P N a c && ckC P N b d
  | .cond p a b, .cond o c d => ckO p o && ckC P N a c && ckC P N b d
  | .block i a, .block j c => i == j && ckC P N a c
  | .loop a, .loop c => ckC P N a c
  | .exit i, .exit j => i == j
  | .ret, .ret => true
  | _, .no => true
  | _, _ => false

section
variable {x : X} {w0 w : World} {N : Nat} {E : Env} {s : St} {a : Act}

theorem SRel.put (H : SRel x w0 N E s a w) {E' : Env} {w' : World} {h' : Hp} (hE : Le E E') (hs : SR w0 E' h' w') {d : Option Nat} (hd : ∀ k, d = some k → k < N) {v : V} {u : Value} (hv : VR E' v u) :
    SRel x w0 N E' { s with t := put s.t d v, h := h' } (a.put d u) w' := by
  refine ⟨hs, H.gr.mono hE, fun n => ?_, ?_, ?_⟩
  · cases d with
    | none => exact (H.tm n).mono hE
    | some k =>
      have hk := hd k rfl
      simp only [Vs.put, Act.put]
      by_cases hn : n = k
      · subst hn
        rw [if_pos rfl]
        have : (a.tmps.setIfInBounds n u).getD n undef = u := by
          simp only [Array.getD_eq_getD_getElem?]
          rw [Array.getElem?_setIfInBounds_self_of_lt (by rw [H.sz]; exact hk)]; rfl
        rw [this]; exact hv
      · rw [if_neg hn]
        have : (a.tmps.setIfInBounds k u).getD n undef = a.tmps.getD n undef := by
          simp only [Array.getD_eq_getD_getElem?]
          rw [Array.getElem?_setIfInBounds_ne (fun e => hn e.symm)]
        rw [this]; exact (H.tm n).mono hE
  · cases d with
    | none => exact H.sz
    | some k => simp only [Act.put, Array.size_setIfInBounds]; exact H.sz
  · have : (a.put d u).defers = a.defers := by cases d <;> rfl
    rw [this]; exact H.df.mono hE

theorem udf_vr (E : Env) : VR E udf undef := .tup [] #[] rfl (fun j x v hx => by simp at hx)

theorem Lift.of {E0 : Env} {Q : Ex → St → Prop} {e : Exit} {w' : World} {E' : Env} {s' : St} {a' : Act} {y : Ex} (hE : Le E0 E') (H : SRel x w0 N E' s' a' w') (hy : ExR E' y e) (hq : Q y s') : Lift x w0 N E0 Q e a' w' := ⟨E', s', y, hE, H, hy, hq⟩

theorem wanted_spec (H : SRel x w0 N E s a w) {ops : Array Oper} {o : Oper} {b : A} (hc : ckA x.P N ops o b = true) : Region.wanted o (yielded ops a.tmps) = Vs.wanted s.t b.g := by
  simp only [ckA, Bool.and_eq_true] at hc
  obtain ⟨_, hg⟩ := hc
  unfold Region.wanted Vs.wanted
  cases h1 : o.guard with
  | none =>
    rw [h1] at hg
    cases h2 : b.g with
    | none => rfl
    | some g => rw [h2] at hg; simp at hg
  | some jw =>
    obtain ⟨j, wt⟩ := jw
    rw [h1] at hg
    cases h2 : b.g with
    | none => rw [h2] at hg; simp at hg
    | some g =>
      obtain ⟨d, wt'⟩ := g
      rw [h2] at hg
      simp only [Bool.and_eq_true, beq_iff_eq, decide_eq_true_eq] at hg
      obtain ⟨⟨rfl, hd⟩, hj⟩ := hg
      simp only [yielded, hj, Option.bind_some]
      have hv := H.tm d
      have hlt : d < a.tmps.size := by rw [H.sz]; exact hd
      have hget : a.tmps[d]? = some (a.tmps.getD d undef) := by
        simp only [Array.getD_eq_getD_getElem?, Array.getElem?_eq_getElem hlt, Option.getD_some]
      rw [hget]
      generalize a.tmps.getD d undef = u at hv
      generalize s.t d = y at hv
      cases hv <;> simp

theorem getD_put {d : Option Tmp} {u : Value} {n : Nat} (h : d ≠ some n) : (a.put d u).tmps.getD n undef = a.tmps.getD n undef := by
  cases d with
  | none => rfl
  | some d =>
    have hn : d ≠ n := fun e => h (by rw [e])
    simp only [Act.put, Array.getD_eq_getD_getElem?]
    rw [Array.getElem?_setIfInBounds_ne hn]

/-- One operation; it puts what it has in its own temporary. -/
theorem vop_soundT (hx : XOk x) (H : SRel x w0 N E s a w) {ops : Array Oper} {o : Oper} {b : A} (hc : ckA x.P N ops o b = true) {Q : Ex → St → Prop} {K : St → Prop} {E0 : Env} (hE0 : Le E0 E) {K' : Act → World → Prop}
    (hK : ∀ E' s' a' w', Le E E' → SRel x w0 N E' s' a' w' → K s' → (∀ n, o.dst ≠ some n → a'.tmps.getD n undef = a.tmps.getD n undef) → K' a' w') (h : vop x b Q K s) :
    if Region.wanted o (yielded ops a.tmps) then o.wp x.P a w K' (Lift x w0 N E0 Q) else K' (a.put o.dst undef) w := by
  have hw := wanted_spec H hc
  simp only [ckA, Bool.and_eq_true, beq_iff_eq] at hc
  obtain ⟨⟨⟨hdst, hd⟩, hi⟩, _⟩ := hc
  have hdlt : ∀ k, o.dst = some k → k < N := fun k hk => by
    rw [hdst] at hk
    rw [hk] at hd
    simpa using hd
  rw [hw]
  unfold vop at h
  by_cases hwt : Vs.wanted s.t b.g = true
  · rw [if_pos hwt] at h ⊢
    have hdoes := op_sound (x := x) hx hi o.dst o.type o.pos o.after o.guard H.sr H.gr H.tm
    have ho : ({ dst := o.dst, op := o.op, type := o.type, pos := o.pos, after := o.after, guard := o.guard } : Oper) = o := rfl
    rw [ho] at hdoes
    unfold Oper.wp
    generalize (execOp a.eval o).run x.P w = r at hdoes ⊢
    cases hr : aop x s.t s.h b.i with
    | none => rw [hr] at h; exact h.elim
    | some rz =>
      rw [hr] at h hdoes
      cases rz with
      | val v h' =>
        obtain ⟨u, E', w', hE, rfl, hv, hs⟩ := hdoes
        simp only at h
        rw [← hdst] at h
        exact hK E' _ _ _ hE (H.put hE hs hdlt hv) h fun n hn => getD_put hn
      | skip h' =>
        obtain ⟨E', w', hE, rfl, hs⟩ := hdoes
        simp only at h
        rw [← hdst] at h
        exact hK E' _ _ _ hE (H.put hE hs hdlt (udf_vr E')) h fun n hn => getD_put hn
      | call f args =>
        simp only at h
        obtain ⟨vs, rfl, hvs⟩ := hdoes h.1
        refine (h.2 w0 E w vs H.sr H.gr hvs).mono fun e w' ⟨E', h', r, hE, hs, hr', hk⟩ => ?_
        cases e with
        | returned u =>
          cases r with
          | ret v =>
            simp only at hk
            rw [← hdst] at hk
            exact hK E' _ _ _ hE (H.put hE hs hdlt hr') hk fun n hn => getD_put hn
          | pan v => exact hr'.elim
        | panicked l =>
          cases r with
          | ret v => exact hr'.elim
          | pan v =>
            refine Lift.of (hE0.trans hE) (s' := { s with h := h' }) ?_ (y := .pan v) hr' hk
            exact ⟨hs, H.gr.mono hE, fun n => (H.tm n).mono hE, H.sz, H.df.mono hE⟩
        | outgrown => cases r <;> exact hr'.elim
      | dfr f args =>
        obtain ⟨d, cap, rfl, ht, hvs⟩ := hdoes
        simp only at h
        rw [← hdst] at h
        have hp := H.put (Le.refl E) H.sr hdlt (udf_vr E)
        refine hK E { s with t := Vs.put s.t o.dst udf, d := (f, args) :: s.d } _ _ (Le.refl E) ⟨hp.sr, hp.gr, ?_, ?_, ?_⟩ h fun n hn => getD_put hn
        · intro n
          have h1 := hp.tm n
          have h2 : (Act.put { a with defers := d :: a.defers } o.dst undef).tmps = (a.put o.dst undef).tmps := by cases o.dst <;> rfl
          rw [h2]; exact h1
        · have h2 : (Act.put { a with defers := d :: a.defers } o.dst undef).tmps = (a.put o.dst undef).tmps := by cases o.dst <;> rfl
          rw [h2]; exact hp.sz
        · have h2 : (Act.put { a with defers := d :: a.defers } o.dst undef).defers = d :: a.defers := by cases o.dst <;> rfl
          rw [h2]
          refine ⟨by simp [H.df.1], fun j dd u hd' hu => ?_⟩
          cases j with
          | zero => simp at hd' hu; subst hd'; subst hu; exact ⟨cap, ht, hvs⟩
          | succ j => exact H.df.2 j dd u (by simpa using hd') (by simpa using hu)
      | pan v =>
        obtain ⟨u, rfl, hv⟩ := hdoes
        simp only at h
        exact Lift.of hE0 H (y := .pan v) ⟨u, hv, rfl⟩ h
  · rw [if_neg hwt] at h ⊢
    rw [← hdst] at h
    exact hK E _ _ _ (Le.refl E) (H.put (Le.refl E) H.sr hdlt (udf_vr E)) h fun n hn => getD_put hn

/-- One operation. -/
theorem vop_sound (hx : XOk x) (H : SRel x w0 N E s a w) {ops : Array Oper} {o : Oper} {b : A} (hc : ckA x.P N ops o b = true) {Q : Ex → St → Prop} {K : St → Prop} {E0 : Env} (hE0 : Le E0 E) {K' : Act → World → Prop}
    (hK : ∀ E' s' a' w', Le E E' → SRel x w0 N E' s' a' w' → K s' → K' a' w') (h : vop x b Q K s) :
    if Region.wanted o (yielded ops a.tmps) then o.wp x.P a w K' (Lift x w0 N E0 Q) else K' (a.put o.dst undef) w :=
  vop_soundT hx H hc hE0 (fun E' s' a' w' h1 h2 h3 _ => hK E' s' a' w' h1 h2 h3) h

theorem vops_sound (hx : XOk x) {ops : Array Oper} {Q : Ex → St → Prop} {E0 : Env} : ∀ (l : List Oper) (bs : List A) (E : Env) (s : St) (a : Act) (w : World), Le E0 E → ckAs x.P N ops l bs = true → SRel x w0 N E s a w → vops x Q bs s →
    wpList x.P ops (Lift x w0 N E0 Q) l a w
  | [], [], E, s, a, w, hE, _, H, h => Lift.of hE H (y := .normal) trivial h
  | o :: l, b :: bs, E, s, a, w, hE, hc, H, h => by
    simp only [ckAs, Bool.and_eq_true] at hc
    have := vop_sound (K' := wpList x.P ops (Lift x w0 N E0 Q) l) hx H hc.1 hE (fun E' s' a' w' hE' H' hk => vops_sound hx l bs E' s' a' w' (hE.trans hE') hc.2 H' hk) h
    unfold wpList
    split
    · rename_i hw; rw [if_pos hw] at this; exact .inl this
    · rename_i hw; rw [if_neg hw] at this; exact this
  | [], _ :: _, _, _, _, _, _, hc, _, _ => by simp [ckAs] at hc
  | _ :: _, [], _, _, _, _, _, hc, _, _ => by simp [ckAs] at hc

/-! ### whatever order -/
def vAny (x : X) (ops : Array Oper) (as : List A) (Q : Ex → St → Prop) : Nat → Array Bool → St → Prop
  | 0, listed, s => Region.ready .any ops listed = [] ∧ Q .normal s
  | f + 1, listed, s => (Region.ready .any ops listed = [] → Q .normal s) ∧ ∀ i ∈ Region.ready .any ops listed, ∃ b, as[i]? = some b ∧ vopD x b Q (vAny x ops as Q f (listed.setIfInBounds i true)) s

theorem vop_mono {o : A} {Q Q' : Ex → St → Prop} {K K' : St → Prop} {s : St} (hq : ∀ v s, Q (.pan v) s → Q' (.pan v) s) (hk : ∀ s, K s → K' s) (h : vop x o Q K s) : vop x o Q' K' s := by
  unfold vop at h ⊢
  split at h
  · rename_i hw
    rw [if_pos hw]
    cases hr : aop x s.t s.h o.i with
    | none => rw [hr] at h; exact h
    | some rz =>
      rw [hr] at h
      cases rz with
      | val v h' => exact hk _ h
      | skip h' => exact hk _ h
      | call f args => exact ACalls.mono h fun r h' hh => by cases r <;> first | exact hk _ hh | exact hq _ _ hh
      | dfr f args => exact hk _ h
      | pan v => exact hq _ _ h
  · rename_i hw
    rw [if_neg hw]
    exact hk _ h

theorem vopD_vop {o : A} {Q : Ex → St → Prop} {K : St → Prop} {s : St} (h : vopD x o Q K s) : vop x o Q K s := by
  refine vop_mono (fun v s' hq => ?_) (fun _ h => h) h
  have := hq s'.t
  exact this

theorem vAny_sound (hx : XOk x) {ops : Array Oper} {as : List A} {Q : Ex → St → Prop} {E0 : Env} (hc : ∀ (i : Nat) o b, ops[i]? = some o → as[i]? = some b → ckA x.P N ops o b = true) : ∀ (f : Nat) (listed : Array Bool) (E : Env) (s : St) (a : Act) (w : World), Le E0 E → SRel x w0 N E s a w →
    vAny x ops as Q f listed s → wpAny x.P .any ops (Lift x w0 N E0 Q) f listed a w
  | 0, _, _, _, _, _, hE, H, h => ⟨h.1, Lift.of hE H (y := .normal) trivial h.2⟩
  | f + 1, listed, E, s, a, w, hE, H, h => ⟨fun h0 => Lift.of hE H (y := .normal) trivial (h.1 h0), fun i hi => by
      obtain ⟨b, hb, hv⟩ := h.2 i hi
      obtain ⟨_, o, ho, _⟩ := mem_ready.1 hi
      have := vop_sound (K' := wpAny x.P .any ops (Lift x w0 N E0 Q) f (listed.setIfInBounds i true)) hx H (hc i o b ho hb) hE (fun E' s' a' w' hE' H' hk => vAny_sound hx hc f _ E' s' a' w' (hE.trans hE') H' hk) (vopD_vop hv)
      unfold wpOp
      simp only [ho]
      split
      · rename_i hw; rw [if_pos hw] at this; exact .inl this
      · rename_i hw; rw [if_neg hw] at this; exact this⟩

/-- What an operation that leaves the heap alone yields. -/
def Yv (x : X) (b : A) (v : V) (s : St) : Prop := (Vs.wanted s.t b.g = true ∧ aop x s.t s.h b.i = some (.val v s.h)) ∨ (Vs.wanted s.t b.g = false ∧ v = udf)

theorem wanted_congr {t t' : Nat → V} {b : A} (h : ∀ n ∈ b.looks, t n = t' n) : Vs.wanted t b.g = Vs.wanted t' b.g := by
  unfold Vs.wanted
  cases hg : b.g with
  | none => rfl
  | some g =>
    obtain ⟨d, w⟩ := g
    simp only
    rw [h d (by simp [A.looks, hg])]

theorem put_look {t : Nat → V} {b : A} {d : Option Nat} {v : V} (h : ∀ k, d = some k → k ∉ b.looks) : ∀ n ∈ b.looks, put t d v n = t n := by
  intro n hn
  cases d with
  | none => rfl
  | some k =>
    simp only [put]
    rw [if_neg (fun (e : n = k) => h k rfl (e ▸ hn))]

theorem apartA_spec {a b : A} (h : apartA a b = true) : (∀ d, a.dst = some d → d ∉ b.looks) ∧ (∀ d, a.dst = some d → b.dst ≠ some d) ∧ (∀ d, b.dst = some d → d ∉ a.looks) := by
  simp only [apartA, Bool.and_eq_true] at h
  refine ⟨fun d hd => ?_, fun d hd => ?_, fun d hd => ?_⟩ <;> simp [hd] at h
  · exact h.1.1
  · exact h.1.2
  · exact h.2

theorem put_comm {t : Nat → V} {a b : Option Nat} {v u : V} (h : ∀ d, a = some d → b ≠ some d) : put (put t a v) b u = put (put t b u) a v := by
  cases a with
  | none => rfl
  | some d =>
    cases b with
    | none => rfl
    | some e =>
      have hne : e ≠ d := fun e' => h d rfl (by rw [e'])
      funext n
      simp only [put]
      by_cases h1 : n = e
      · rw [if_pos h1, if_neg (by omega), if_pos h1]
      · rw [if_neg h1]
        by_cases h2 : n = d
        · rw [if_pos h2, if_pos h2]
        · rw [if_neg h2, if_neg h2, if_neg h1]

theorem Yv.keep {b c : A} {v u : V} {s : St} {h' : Hp} {dd : List (FuncId × List V)} (hy : Yv x b v s) (ha : ∀ d, c.dst = some d → d ∉ b.looks) (hh : h' = s.h ∨ b.i.silent = true) : Yv x b v { t := put s.t c.dst u, h := h', d := dd } := by
  have hl := put_look (t := s.t) (v := u) (b := b) ha
  have hw : Vs.wanted (put s.t c.dst u) b.g = Vs.wanted s.t b.g := wanted_congr hl
  have ha2 : ∀ h, aop x (put s.t c.dst u) h b.i = aop x s.t h b.i := fun h => aop_congr fun n hn => hl n (by simp [A.looks, hn])
  rcases hy with ⟨h1, h2⟩ | ⟨h1, h2⟩
  · refine .inl ⟨by rw [hw]; exact h1, ?_⟩
    rw [ha2]
    rcases hh with rfl | hs
    · exact h2
    · rw [silent_eq hs] at h2 ⊢
      simp only [Option.map_eq_some_iff, Rz.val.injEq] at h2 ⊢
      obtain ⟨v', e1, e2, _⟩ := h2
      exact ⟨v', e1, e2, trivial⟩
  · exact .inr ⟨by rw [hw]; exact h1, h2⟩

/-- Operation j, apart from i: whether i's value is there already makes no difference to it, and it makes none to i. -/
theorem vop_put {bi bj : A} {v : V} {s : St} {Q : Ex → St → Prop} {K : St → Prop} (hap : apartA bi bj = true) (hcl : (bi.i.silent || (bi.i.reads && bj.i.reads)) = true) (hy : Yv x bi v s) (h : vopD x bj Q K { s with t := put s.t bi.dst v }) :
    vopD x bj Q (fun s' => Yv x bi v s' ∧ K { s' with t := put s'.t bi.dst v }) s := by
  obtain ⟨a1, a2, a3⟩ := apartA_spec hap
  have hl := put_look (t := s.t) (v := v) (b := bj) a1
  have hw : Vs.wanted (put s.t bi.dst v) bj.g = Vs.wanted s.t bj.g := wanted_congr hl
  have ha : aop x (put s.t bi.dst v) s.h bj.i = aop x s.t s.h bj.i := aop_congr fun n hn => hl n (by simp [A.looks, hn])
  unfold vopD vop at h ⊢
  simp only [hw, ha] at h
  by_cases hwt : Vs.wanted s.t bj.g = true
  · rw [if_pos hwt] at h ⊢
    have hsame : ∀ rz, aop x s.t s.h bj.i = some rz → bi.i.silent = true ∨ ∃ u, rz = .val u s.h := fun rz hr => by
      rw [Bool.or_eq_true, Bool.and_eq_true] at hcl
      rcases hcl with hs | ⟨_, hr2⟩
      · exact .inl hs
      · exact .inr (reads_eq hr2 hr)
    cases hr : aop x s.t s.h bj.i with
    | none => rw [hr] at h; exact h
    | some rz =>
      rw [hr] at h
      have hs := hsame rz hr
      cases rz with
      | val u h' =>
        simp only at h ⊢
        refine ⟨hy.keep a3 ?_, ?_⟩
        · rcases hs with hs | ⟨u', hu⟩
          · exact .inr hs
          · cases hu; exact .inl rfl
        · rw [put_comm (fun d hd => a2 d hd)] at h; exact h
      | skip h' =>
        simp only at h ⊢
        refine ⟨hy.keep a3 ?_, ?_⟩
        · rcases hs with hs | ⟨u', hu⟩
          · exact .inr hs
          · cases hu
        · rw [put_comm (fun d hd => a2 d hd)] at h; exact h
      | call f args =>
        simp only at h ⊢
        have hsil : bi.i.silent = true := by
          rcases hs with hs | ⟨u', hu⟩
          · exact hs
          · cases hu
        refine ACalls.mono h fun r h' hh => ?_
        cases r with
        | ret u =>
          refine ⟨hy.keep a3 (.inr hsil), ?_⟩
          have hh' : K { s with t := put (put s.t bi.dst v) bj.dst u, h := h' } := hh
          rw [put_comm (fun d hd => a2 d hd)] at hh'; exact hh'
        | pan u => exact hh
      | dfr f args =>
        simp only at h ⊢
        refine ⟨hy.keep a3 (.inl rfl), ?_⟩
        rw [put_comm (fun d hd => a2 d hd)] at h; exact h
      | pan u => exact h
  · rw [if_neg hwt] at h ⊢
    refine ⟨hy.keep a3 (.inl rfl), ?_⟩
    rw [put_comm (fun d hd => a2 d hd)] at h; exact h

theorem Yv.vop {b : A} {v : V} {s : St} {Q : Ex → St → Prop} {K : St → Prop} (hy : Yv x b v s) (h : K { s with t := put s.t b.dst v }) : vopD x b Q K s := by
  unfold vopD Vs.vop
  rcases hy with ⟨h1, h2⟩ | ⟨h1, rfl⟩
  · rw [if_pos h1, h2]; exact h
  · rw [if_neg (by rw [h1]; simp)]; exact h

theorem vAny_first {ops : Array Oper} {as : List A} {Q : Ex → St → Prop} {i : Nat} {bi : A} {v : V} (hi : as[i]? = some bi) : ∀ (f : Nat) (listed : Array Bool) (s : St),
    (∀ j oj, ops[j]? = some oj → j ≠ i → listed.getD j true = false → (∀ e ∈ oj.after, Region.binds .any e = true → e.on ≠ i) → ∀ bj, as[j]? = some bj → apartA bi bj = true ∧ (bi.i.silent || (bi.i.reads && bj.i.reads)) = true) →
    i ∈ Region.ready .any ops listed → Yv x bi v s → vAny x ops as Q f (listed.setIfInBounds i true) { s with t := put s.t bi.dst v } → vAny x ops as Q (f + 1) listed s := by
  intro f
  induction f with
  | zero =>
    intro listed s _ hr hy H
    refine ⟨fun h => (by rw [h] at hr; cases hr), fun j hj => ?_⟩
    by_cases hji : j = i
    · subst hji; exact ⟨bi, hi, hy.vop H⟩
    · have := ready_mono hj hji
      rw [H.1] at this
      cases this
  | succ f ih =>
    intro listed s hfree hr hy H
    refine ⟨fun h => (by rw [h] at hr; cases hr), fun j hj => ?_⟩
    by_cases hji : j = i
    · subst hji; exact ⟨bi, hi, hy.vop H⟩
    · obtain ⟨bj, hbj, h1⟩ := H.2 j (ready_mono hj hji)
      obtain ⟨hjun, oj, hoj, hall⟩ := mem_ready.1 hj
      have hnot : ∀ e ∈ oj.after, Region.binds .any e = true → e.on ≠ i := fun e he hb heq => by
        have h1 := hall e he hb
        have h0 := (mem_ready.1 hr).1
        rw [heq] at h1
        rcases Nat.lt_or_ge i listed.size with h' | h'
        · simp [h'] at h0 h1; rw [h0] at h1; cases h1
        · simp [Array.getElem?_eq_none h'] at h1
      obtain ⟨hap, hcl⟩ := hfree j oj hoj hji hjun hnot bj hbj
      have h2 := vop_put hap hcl hy h1
      have hfree' : ∀ k ok, ops[k]? = some ok → k ≠ i → (listed.setIfInBounds j true).getD k true = false →
          (∀ e ∈ ok.after, Region.binds .any e = true → e.on ≠ i) → ∀ bk, as[k]? = some bk → apartA bi bk = true ∧ (bi.i.silent || (bi.i.reads && bk.i.reads)) = true := fun k ok hk hki hun hno => by
        refine hfree k ok hk hki ?_ hno
        by_cases hjk : j = k
        · subst hjk; exact hjun
        · rw [getD_set_ne true hjk] at hun; exact hun
      refine ⟨bj, hbj, vop_mono (fun _ _ h => h) (fun s' h3 => ih (listed.setIfInBounds j true) s' hfree' (ready_mono hr (Ne.symm hji)) h3.1 ?_) h2⟩
      rw [Array.setIfInBounds_comm _ _ hji]
      exact h3.2

theorem freeOk_spec {ops : Array Oper} {as : List A} {listed : Array Bool} {i : Nat} {bi : A} (hi : as[i]? = some bi) (h : freeOk ops as listed i = true) :
    ∀ j oj, ops[j]? = some oj → j ≠ i → listed.getD j true = false → (∀ e ∈ oj.after, Region.binds .any e = true → e.on ≠ i) → ∀ bj, as[j]? = some bj → apartA bi bj = true ∧ (bi.i.silent || (bi.i.reads && bj.i.reads)) = true := by
  intro j oj hoj hji hun hno bj hbj
  unfold freeOk at h
  rw [hi] at h
  simp only [List.all_eq_true, List.mem_range] at h
  have hlt : j < ops.size := (Array.getElem?_eq_some_iff.1 hoj).1
  have hj := h j hlt
  rw [Bool.or_eq_true, Bool.or_eq_true, Bool.or_eq_true] at hj
  rcases hj with ((hj | hj) | hj) | hj
  · exact absurd (by simpa using hj) hji
  · rw [hun] at hj; cases hj
  · rw [hoj] at hj
    simp only [Option.map_some, Option.getD_some, List.any_eq_true] at hj
    obtain ⟨e, he, hb⟩ := hj
    have he := Array.mem_toList_iff.1 he
    simp only [Bool.and_eq_true, beq_iff_eq] at hb
    exact absurd hb.2 (hno e he hb.1)
  · rw [hbj] at hj
    simpa using hj

theorem vop_yv {b : A} {Q : Ex → St → Prop} {K : St → Prop} {s : St} (hr : b.i.reads = true) (h : vopD x b Q K s) : ∃ v, Yv x b v s ∧ K { s with t := put s.t b.dst v } := by
  unfold vopD vop at h
  by_cases hw : Vs.wanted s.t b.g = true
  · rw [if_pos hw] at h
    cases ha : aop x s.t s.h b.i with
    | none => rw [ha] at h; exact h.elim
    | some rz =>
      obtain ⟨v, rfl⟩ := reads_eq hr ha
      rw [ha] at h
      exact ⟨v, .inl ⟨hw, ha⟩, h⟩
  · rw [if_neg hw] at h
    exact ⟨udf, .inr ⟨by simpa using hw, rfl⟩, h⟩

theorem listAll_getD (d : Bool) : ∀ (l : List Nat) (listed : Array Bool) (k : Nat), (listAll listed l).getD k d = if k ∈ l ∧ k < listed.size then true else listed.getD k d
  | [], listed, k => by simp [listAll]
  | i :: r, listed, k => by
    rw [listAll, listAll_getD d r]
    simp only [Array.size_setIfInBounds, List.mem_cons]
    by_cases hk : k < listed.size
    · by_cases hr : k ∈ r
      · simp [hr, hk]
      · by_cases hki : k = i
        · subst hki; simp [hr, hk]
        · simp [hr, hki, hk, Array.getElem_setIfInBounds, Ne.symm hki]
    · simp [hk]

theorem listAll_size : ∀ (l : List Nat) (listed : Array Bool), (listAll listed l).size = listed.size
  | [], _ => rfl
  | i :: r, listed => by rw [listAll, listAll_size r]; simp

theorem array_ext_getD {a b : Array Bool} (hs : a.size = b.size) (h : ∀ k, a.getD k true = b.getD k true) : a = b := by
  refine Array.ext hs fun i h1 h2 => ?_
  have := h i
  simpa [h1, h2] using this

theorem Val.congr {o : A} {t t' : Nat → V} {h : Hp} {v : V} (hl : ∀ n ∈ o.looks, t n = t' n) (hv : Val x o t h v) : Val x o t' h v := by
  have e1 := wanted_congr hl
  have e2 : aop x t h o.i = aop x t' h o.i := aop_congr fun n hn => hl n (by simp [A.looks, hn])
  unfold Val at hv ⊢
  rw [← e1, ← e2]
  exact hv

theorem HVal.congr {o : A} {t t' : Nat → V} {h h1 : Hp} {v : V} (hl : ∀ n ∈ o.looks, t n = t' n) (hv : HVal x o t h h1 v) : HVal x o t' h h1 v := by
  have e1 := wanted_congr hl
  have e2 : aop x t h o.i = aop x t' h o.i := aop_congr fun n hn => hl n (by simp [A.looks, hn])
  unfold HVal at hv ⊢
  rw [← e1, ← e2]
  exact hv

theorem Val.vop {o : A} {s : St} {v : V} (hv : Val x o s.t s.h v) {Q : Ex → St → Prop} {K : St → Prop} (hK : K { s with t := put s.t o.dst v }) : vop x o Q K s := by
  unfold Vs.vop
  by_cases hw : Vs.wanted s.t o.g = true
  · rw [if_pos hw]
    rcases hv.1 hw with ha | ⟨f, args, ha, hc⟩
    · rw [ha]; exact hK
    · rw [ha]
      refine hc.mono ?_
      rintro r h ⟨rfl, rfl⟩
      exact hK
  · rw [if_neg hw]
    have := hv.2 (by simpa using hw)
    subst this
    exact hK

theorem HVal.vop {o : A} {s : St} {h1 : Hp} {v : V} (hv : HVal x o s.t s.h h1 v) {Q : Ex → St → Prop} {K : St → Prop} (hK : K { s with t := put s.t o.dst v, h := h1 }) : vop x o Q K s := by
  unfold Vs.vop
  rw [if_pos hv.1]
  rcases hv.2 with ha | ⟨f, args, ha, hc⟩
  · rw [ha]; exact hK
  · rw [ha]
    refine hc.mono ?_
    rintro r h ⟨rfl, rfl⟩
    exact hK

theorem ordOk_spec {ops : Array Oper} {listed : Array Bool} : ∀ (l prev rem : List Nat), ordOk ops listed prev l = true → (∀ i ∈ rem, i ∈ l) → rem ≠ [] →
    ∃ i ∈ rem, ∃ o, ops[i]? = some o ∧ ∀ e ∈ o.after, Region.binds .any e = true → listed.getD e.on false = true ∨ e.on ∈ prev ∨ (e.on ∈ l ∧ e.on ∉ rem)
  | [], prev, rem, _, hs, hne => by
    cases rem with
    | nil => exact absurd rfl hne
    | cons i r => exact absurd (hs i (by simp)) (by simp)
  | i :: r, prev, rem, h, hs, hne => by
    simp only [ordOk, Bool.and_eq_true] at h
    by_cases hi : i ∈ rem
    · refine ⟨i, hi, ?_⟩
      have h1 := h.1
      cases ho : ops[i]? with
      | none => rw [ho] at h1; simp at h1
      | some o =>
        rw [ho] at h1
        simp only [Option.map_some, Option.getD_some, List.all_eq_true, Bool.or_eq_true, Bool.not_eq_true', List.contains_iff_mem] at h1
        refine ⟨o, rfl, fun e he hb => ?_⟩
        rcases h1 e (Array.mem_toList_iff.2 he) with (h2 | h2) | h2
        · rw [hb] at h2; cases h2
        · exact .inl h2
        · exact .inr (.inl h2)
    · obtain ⟨j, hj, o, ho, hall⟩ := ordOk_spec r (i :: prev) rem h.2 (fun k hk => by
        rcases List.mem_cons.1 (hs k hk) with rfl | hk'
        · exact absurd hk hi
        · exact hk') hne
      refine ⟨j, hj, o, ho, fun e he hb => ?_⟩
      rcases hall e he hb with h2 | h2 | ⟨h2, h3⟩
      · exact .inl h2
      · rcases List.mem_cons.1 h2 with h2 | h2
        · exact .inr (.inr ⟨by rw [h2]; simp, by rw [h2]; exact hi⟩)
        · exact .inr (.inl h2)
      · exact .inr (.inr ⟨List.mem_cons_of_mem _ h2, h3⟩)

/-- Operations that come first, all of them, in whatever order. -/
theorem com_any {ops : Array Oper} {as : List A} {Q : Ex → St → Prop} {l : List Nat} {c : Option Nat} {listed0 : Array Bool} {s0 : St} {tf : Nat → V} {h1 : Hp} (hck : comOk ops as listed0 l = true) (hok : ComOk x as l c s0 tf h1) {f0 : Nat}
    (hfin : vAny x ops as Q f0 (listAll listed0 l) { s0 with t := tf, h := h1 }) :
    ∀ (m : Nat) (rem : List Nat) (listed : Array Bool) (t : Nat → V) (h : Hp), rem.length = m → rem.Nodup → (∀ i ∈ rem, i ∈ l) → listed.size = listed0.size → (∀ k, listed.getD k true = if k ∈ l ∧ k ∉ rem then true else listed0.getD k true) →
      (∀ j ∈ rem, ∀ k ∈ ancs ops j, listed.getD k true = false) → (∀ n, (∀ i ∈ rem, dstOf as i ≠ some n) → t n = tf n) → ((∀ i ∈ rem, c ≠ some i) → h = h1) → ((∃ i ∈ rem, c = some i) → h = s0.h) →
      vAny x ops as Q (f0 + m) listed { s0 with t, h } := by
  unfold comOk at hck
  simp only [Bool.and_eq_true, List.all_eq_true, decide_eq_true_eq, List.mem_range, Bool.or_eq_true, Bool.not_eq_true', List.mem_map, forall_exists_index, and_imp, List.contains_iff_mem, bne_iff_ne, beq_iff_eq] at hck
  obtain ⟨⟨⟨⟨⟨⟨hnd, hA0⟩, hA⟩, hC⟩, hB⟩, hself⟩, hord⟩ := hck
  intro m
  induction m with
  | zero =>
    intro rem listed t h hm hrnd hsub hsz hls hanc ht hh1 hh0
    have : rem = [] := List.eq_nil_of_length_eq_zero hm
    subst this
    have ht' : t = tf := funext fun n => ht n (by simp)
    have hh := hh1 (by simp)
    subst ht'; subst hh
    have : listed = listAll listed0 l := by
      refine array_ext_getD (by rw [listAll_size, hsz]) fun k => ?_
      rw [hls k, listAll_getD]
      by_cases hk : k ∈ l
      · have := (hA0 k hk).1.1
        have hlt : k < listed0.size := by
          rcases Nat.lt_or_ge k listed0.size with h' | h'
          · exact h'
          · simp [Array.getElem?_eq_none h'] at this
        simp [hk, hlt]
      · simp [hk]
    rw [this]
    exact hfin
  | succ m ih =>
    intro rem listed t h hm hrnd hsub hsz hls hanc ht hh1 hh0
    -- what is ready is left, and finds what it looks at
    have hready : ∀ i ∈ Region.ready .any ops listed, i ∈ rem ∧ ∀ j ∈ rem, i ∉ ancs ops j := by
      intro i hi
      obtain ⟨hun, o, ho, hall⟩ := mem_ready.1 hi
      have hnot : ∀ j ∈ rem, i ∉ ancs ops j := by
        intro j hj hia
        have hjl := hsub j hj
        obtain ⟨_, he⟩ := hC _ j hjl rfl i hia
        rw [ho] at he
        simp only [Option.map_some, Option.getD_some, List.any_eq_true, Bool.and_eq_true, Bool.or_eq_true, beq_iff_eq, List.contains_iff_mem] at he
        obtain ⟨e, he1, he2, he3⟩ := he
        have h1 := hall e (Array.mem_toList_iff.1 he1) he2
        have hfalse : listed.getD e.on true = false := by
          rcases he3 with he3 | he3
          · rw [he3, hls j, if_neg (fun hc => hc.2 hj)]
            exact (hA0 j hjl).1.1
          · exact hanc j hj _ he3
        rcases Nat.lt_or_ge e.on listed.size with h' | h'
        · simp [h'] at h1 hfalse; rw [hfalse] at h1; cases h1
        · simp [Array.getElem?_eq_none h'] at h1
      refine ⟨?_, hnot⟩
      have hlt : i < ops.size := (Array.getElem?_eq_some_iff.1 ho).1
      have h0 : listed0.getD i true = false ∧ ¬ (i ∈ l ∧ i ∉ rem) := by
        have := hls i
        rw [hun] at this
        split at this
        · cases this
        · rename_i hn; exact ⟨this.symm, hn⟩
      rcases hA i hlt with (h2 | h2) | h2
      · rw [h0.1] at h2; cases h2
      · exact Classical.byContradiction fun hn => h0.2 ⟨h2, hn⟩
      · -- it waits for all of them
        exfalso
        cases rem with
        | nil => simp at hm
        | cons j r => exact hnot j (by simp) (h2 _ j (hsub j (by simp)) rfl)
    have key : ∀ i ∈ Region.ready .any ops listed, ∃ b, as[i]? = some b ∧ vopD x b Q (vAny x ops as Q (f0 + m) (listed.setIfInBounds i true)) { s0 with t, h } := by
      intro i hi
      obtain ⟨hir, hna⟩ := hready i hi
      obtain ⟨o, e, ho, he, hval⟩ := hok.val i (hsub i hir)
      refine ⟨o, ho, ?_⟩
      have hlk : ∀ n ∈ o.looks, tf n = t n := by
        intro n hn
        refine (ht n fun j hj hd => ?_).symm
        have hjl := hsub j hj
        by_cases hji : i = j
        · subst hji
          have := hself i (hsub i hir)
          rw [ho] at this
          simp [hd] at this
          exact this hn
        · rcases hB _ j hjl rfl i (hsub i hir) with h2 | ⟨_, h2 | h2⟩
          · exact hji h2
          · exact hna j hj h2
          · rw [ho] at h2
            simp [hd] at h2
            exact h2 hn
      have hdi : dstOf as i = some e := by simp [dstOf, ho, he]
      have hgo : ∀ h', ((∀ j ∈ rem.erase i, c ≠ some j) → h' = h1) → ((∃ j ∈ rem.erase i, c = some j) → h' = s0.h) → vAny x ops as Q (f0 + m) (listed.setIfInBounds i true) { s0 with t := put t o.dst (tf e), h := h' } := by
        intro h' q1 q2
        have hiun : listed.getD i true = false := (mem_ready.1 hi).1
        have hilt : i < listed.size := by
          rcases Nat.lt_or_ge i listed.size with h' | h'
          · exact h'
          · simp [Array.getElem?_eq_none h'] at hiun
        refine ih (rem.erase i) _ _ h' (by rw [List.length_erase_of_mem hir]; omega) (hrnd.erase i) (fun j hj => hsub j (List.mem_of_mem_erase hj)) (by simp [hsz]) (fun k => ?_) (fun j hj k hk => ?_) (fun n hn => ?_) q1 q2
        · by_cases hki : k = i
          · subst hki
            have : k ∉ rem.erase k := fun hc => by rw [hrnd.mem_erase_iff] at hc; exact hc.1 rfl
            simp [hilt, this, hsub k hir]
          · have h3 : (listed.setIfInBounds i true).getD k true = listed.getD k true := getD_set_ne true (fun e => hki e.symm)
            rw [h3, hls k]
            have : (k ∉ rem.erase i) ↔ k ∉ rem := by rw [hrnd.mem_erase_iff]; simp [hki]
            simp only [this]
        · have hj' := List.mem_of_mem_erase hj
          have hne : k ≠ i := fun e => hna j hj' (e ▸ hk)
          rw [getD_set_ne true (fun e => hne e.symm)]
          exact hanc j hj' k hk
        · rw [he]
          simp only [put]
          split
          · rename_i hne; rw [hne]
          · rename_i hne
            refine ht n fun j hj hd => ?_
            by_cases hji : j = i
            · subst hji; rw [hdi] at hd; injection hd with hd; exact hne hd.symm
            · exact hn j (by rw [hrnd.mem_erase_iff]; exact ⟨hji, hj⟩) hd
      by_cases hci : c = some i
      · rw [if_pos hci] at hval
        have hh := hh0 ⟨i, hir, hci⟩
        subst hh
        refine HVal.vop (s := { s0 with t, h := s0.h }) (hval.congr hlk) ?_
        refine hgo h1 (fun _ => rfl) fun ⟨j, hj, hcj⟩ => ?_
        rw [hci] at hcj
        injection hcj with hcj
        subst hcj
        rw [hrnd.mem_erase_iff] at hj
        exact absurd rfl hj.1
      · rw [if_neg hci] at hval
        have hv : Val x o tf h (tf e) := by
          by_cases hex : ∃ j ∈ rem, c = some j
          · rw [hh0 hex]; exact hval.1
          · rw [hh1 fun j hj hc => hex ⟨j, hj, hc⟩]; exact hval.2
        refine Val.vop (s := { s0 with t, h }) (hv.congr hlk) ?_
        refine hgo h (fun hn => hh1 fun j hj hcj => ?_) fun ⟨j, hj, hcj⟩ => hh0 ⟨j, List.mem_of_mem_erase hj, hcj⟩
        by_cases hji : j = i
        · subst hji; exact hci hcj
        · exact hn j (by rw [hrnd.mem_erase_iff]; exact ⟨hji, hj⟩) hcj
    refine ⟨fun h0 => ?_, key⟩
    -- something is ready: the first one that is left waits for none
    exfalso
    obtain ⟨i, hi, o, ho, hall⟩ := ordOk_spec l [] rem hord hsub (by intro e; rw [e] at hm; simp at hm)
    have hil := hsub i hi
    have : i ∈ Region.ready .any ops listed := by
      refine mem_ready.2 ⟨?_, o, ho, fun e he hb => ?_⟩
      · rw [hls i, if_neg (fun hc => hc.2 hi)]; exact (hA0 i hil).1.1
      · have key2 : listed.getD e.on true = true ∧ e.on < listed.size := by
          rcases hall e he hb with h2 | h2 | ⟨h2, h3⟩
          · have hlt : e.on < listed0.size := by
              rcases Nat.lt_or_ge e.on listed0.size with h' | h'
              · exact h'
              · simp [Array.getElem?_eq_none h'] at h2
            refine ⟨?_, by rw [hsz]; exact hlt⟩
            rw [hls]
            split
            · rfl
            · simpa [hlt] using h2
          · simp at h2
          · refine ⟨by rw [hls, if_pos ⟨h2, h3⟩], ?_⟩
            have := (hA0 _ h2).1.1
            rcases Nat.lt_or_ge e.on listed0.size with h' | h'
            · rw [hsz]; exact h'
            · simp [Array.getElem?_eq_none h'] at this
        have h2 := key2.1
        simpa [key2.2] using h2
    rw [h0] at this
    cases this

theorem vD_any {ops : Array Oper} {as : List A} {Q : Ex → St → Prop} : ∀ (d : D) (f : Nat) (listed : Array Bool) (s : St), (ckD ops as f listed none d = true → vD x as Q d s → vAny x ops as Q f listed s) ∧
    ∀ ks, ckD ops as (f + 1) listed (some ks) d = true → vD x as Q d s → ∀ i ∈ ks, ∃ b, as[i]? = some b ∧ vopD x b Q (vAny x ops as Q f (listed.setIfInBounds i true)) s := by
  intro d
  induction d with
  | done =>
    intro f listed s
    refine ⟨fun hc h => ?_, fun ks hc => by cases ks <;> simp [ckD] at hc⟩
    have h0 : Region.ready .any ops listed = [] := by cases f <;> simpa [ckD] using hc
    cases f with
    | zero => exact ⟨h0, h⟩
    | succ f => exact ⟨fun _ => h, fun i hi => by rw [h0] at hi; cases hi⟩
  | free i r ih =>
    intro f listed s
    refine ⟨fun hc h => ?_, fun ks hc => by cases ks <;> simp [ckD] at hc⟩
    cases f with
    | zero => simp [ckD] at hc
    | succ f =>
      simp only [ckD, Bool.and_eq_true] at hc
      obtain ⟨⟨⟨h1, h2⟩, h3⟩, h4⟩ := hc
      simp only [vD] at h
      cases hb : as[i]? with
      | none => rw [hb] at h; exact h.elim
      | some b =>
        rw [hb] at h h2
        obtain ⟨v, hy, hk⟩ := vop_yv (by simpa using h2) h
        exact vAny_first hb f listed s (freeOk_spec hb h3) (by simpa using h1) hy ((ih f _ _).1 h4 hk)
  | cho i r o ihr iho =>
    intro f listed s
    refine ⟨fun hc h => ?_, fun ks hc h => ?_⟩
    · cases f with
      | zero => simp [ckD] at hc
      | succ f =>
        simp only [ckD] at hc
        split at hc
        · cases hc
        · rename_i k ks hks
          simp only [Bool.and_eq_true, beq_iff_eq] at hc
          obtain ⟨⟨rfl, h1⟩, h2⟩ := hc
          refine ⟨fun h0 => (by rw [hks] at h0; cases h0), fun j hj => ?_⟩
          rw [hks] at hj
          simp only [vD] at h
          cases hj with
          | head =>
            cases hb : as[k]? with
            | none => rw [hb] at h; exact h.1.elim
            | some b =>
              rw [hb] at h
              exact ⟨b, rfl, vop_mono (fun _ _ h => h) (fun s' hs' => (ihr f _ s').1 h1 hs') h.1⟩
          | tail _ hj => exact (iho f listed s).2 ks h2 h.2 j hj
    · cases ks with
      | nil => simp [ckD] at hc
      | cons k ks =>
        simp only [ckD, Bool.and_eq_true, beq_iff_eq] at hc
        obtain ⟨⟨rfl, h1⟩, h2⟩ := hc
        simp only [vD] at h
        intro j hj
        cases hj with
        | head =>
          cases hb : as[k]? with
          | none => rw [hb] at h; exact h.1.elim
          | some b =>
            rw [hb] at h
            exact ⟨b, rfl, vop_mono (fun _ _ h => h) (fun s' hs' => (ihr f _ s').1 h1 hs') h.1⟩
        | tail _ hj => exact (iho f listed s).2 ks h2 h.2 j hj
  | com l r ih =>
    intro f listed s
    refine ⟨fun hc h => ?_, fun ks hc => by cases ks <;> simp [ckD] at hc⟩
    have hc' : comOk ops as listed l = true ∧ l.length ≤ f ∧ ckD ops as (f - l.length) (listAll listed l) none r = true := by
      cases f <;> simpa [ckD, and_assoc] using hc
    obtain ⟨h1, h2, h3⟩ := hc'
    obtain ⟨tf, g, c, hok, hr⟩ := h
    have hfin := (ih (f - l.length) (listAll listed l) _).1 h3 hr
    have hck := h1
    unfold comOk at hck
    simp only [Bool.and_eq_true, List.all_eq_true, decide_eq_true_eq, Bool.not_eq_true', List.mem_map, forall_exists_index, and_imp] at hck
    have hcomp := com_any h1 hok hfin l.length l listed s.t s.h rfl hck.1.1.1.1.1.1 (fun i hi => hi) rfl (fun k => by rw [if_neg (fun hc => hc.2 hc.1)]) (fun j hj k hk => (hck.1.1.1.2 _ j hj rfl k hk).1) (fun n hn => hok.off n fun i hi o ho hd => hn i hi (by simp [dstOf, ho, hd])) (fun hn => (hok.same hn).symm) (fun _ => rfl)
    rw [show f - l.length + l.length = f by omega] at hcomp
    exact hcomp
  | nope =>
    intro f listed s
    refine ⟨fun hc => by cases f <;> simp [ckD] at hc, fun ks hc h i hi => ?_⟩
    cases ks with
    | nil => cases hi
    | cons k ks => simp [ckD] at hc
  | lin L l =>
    intro f listed s
    exact ⟨fun hc => by cases f <;> simp [ckD] at hc, fun ks hc => by cases ks <;> simp [ckD] at hc⟩

theorem ckAs_get {P : Program} {ops : Array Oper} : ∀ {l : List Oper} {as : List A}, ckAs P N ops l as = true → ∀ (i : Nat) o b, l[i]? = some o → as[i]? = some b → ckA P N ops o b = true
  | o :: l, b :: as, h, i, o', b', ho, hb => by
    simp only [ckAs, Bool.and_eq_true] at h
    cases i with
    | zero => simp at ho hb; subst ho; subst hb; exact h.1
    | succ i => exact ckAs_get h.2 i o' b' (by simpa using ho) (by simpa using hb)
  | [], [], _, i, o, b, ho, _ => by simp at ho
  | [], _ :: _, h, _, _, _, _, _ => by simp [ckAs] at h
  | _ :: _, [], h, _, _, _, _, _ => by simp [ckAs] at h

theorem SRel.drew (H : SRel x w0 N E s a w) : SRel x w0 N E s a w.drew := ⟨H.sr.drew, H.gr, H.tm, H.sz, H.df⟩

/-- A loop with a number that every round lowers. -/
theorem wp_loop_num {P : Program} {Q : Exit → Act → World → Prop} {c : Code} (I : Nat → Act → World → Prop) {n : Nat} (h0 : I n a w) (round : ∀ n a w, I n a w → c.wp P (Exit.then (fun a' w' => ∃ m, m < n ∧ I m a' w') Q) a w) : (Code.loop c).wp P Q a w := by
  intro b k cs
  have key : ∀ n a w, I n a w → ∃ e a' w', Q e a' w' ∧ Arrives P (lone (b.at a (.code c :: .inLoop c :: k)) cs w) b k cs e a' w' := by
    intro n
    induction n using Nat.strongRecOn with
    | _ n ih =>
      intro a w hI
      obtain ⟨e, a₁, w₁, hq, harr⟩ := round n a w hI b (.inLoop c :: k) cs
      cases e with
      | normal =>
        obtain ⟨m, hlt, hI₁⟩ := hq
        obtain ⟨e₂, a₂, w₂, hq₂, harr₂⟩ := ih m hlt a₁ w₁ hI₁
        exact ⟨e₂, a₂, w₂, hq₂, .of_steps (Steps.trans harr (.one step_inLoop)) harr₂⟩
      | exit id => exact ⟨_, a₁, w₁, hq, .pass (x := .inLoop c) rfl (fun _ _ => .inl (by simp)) harr⟩
      | goto l => exact ⟨_, a₁, w₁, hq, .pass (x := .inLoop c) rfl (fun _ _ => .inl (by simp)) harr⟩
      | ret => exact ⟨_, a₁, w₁, hq, .pass (x := .inLoop c) rfl (fun _ _ => .inl (by simp)) harr⟩
      | panic ch => exact ⟨_, a₁, w₁, hq, .pass (x := .inLoop c) rfl (fun _ _ => .inl (by simp)) harr⟩
      | outgrown => exact ⟨_, a₁, w₁, hq, .pass (x := .inLoop c) rfl (fun _ _ => .inl (by simp)) harr⟩
  obtain ⟨e, a', w', hq, harr⟩ := key n a w h0
  exact ⟨e, a', w', hq, .of_steps (.one step_loop) harr⟩

end
end Go.Vs
namespace Go.Vs
open Go.RowKit

section
variable {x : X} {w0 w : World} {N : Nat} {E : Env} {s : St} {a : Act}

/-- Whatever order: new blocks of 'L' are told when they are looked at. -/
def vAnyL (x : X) (ops : Array Oper) (as : List A) (L : List Nat) (Q : Ex → St → Prop) : Nat → Array Bool → St → Prop
  | 0, listed, s => Region.ready .any ops listed = [] ∧ Q .normal s
  | f + 1, listed, s => (Region.ready .any ops listed = [] → Q .normal s) ∧ ∀ i ∈ Region.ready .any ops listed,
      if i ∈ L then vAnyL x ops as L Q f (listed.setIfInBounds i true) s
      else ∃ b, as[i]? = some b ∧ vopD x b Q (vAnyL x ops as L Q f (listed.setIfInBounds i true)) (tell as (nd as L i) s)

theorem vop_congr {o : A} {Q : Ex → St → Prop} {K K' : St → Prop} {t t' : Nat → V} {h : Hp} {d : List (FuncId × List V)} (hl : ∀ n ∈ o.looks, t n = t' n)
    (hk : ∀ v h' d', K ⟨put t o.dst v, h', d'⟩ → K' ⟨put t' o.dst v, h', d'⟩) (H : vopD x o Q K ⟨t, h, d⟩) : vopD x o Q K' ⟨t', h, d⟩ := by
  have e1 := wanted_congr hl
  have e2 : aop x t h o.i = aop x t' h o.i := aop_congr fun n hn => hl n (by simp [A.looks, hn])
  unfold vopD vop at H ⊢
  simp only at H ⊢
  rw [← e1, ← e2]
  split at H
  · rename_i hw
    rw [if_pos hw]
    cases hr : aop x t h o.i with
    | none => rw [hr] at H; exact H
    | some rz =>
      rw [hr] at H
      cases rz with
      | val v h' => exact hk _ _ _ H
      | skip h' => exact hk _ _ _ H
      | call f args => exact ACalls.mono H fun r h' hh => by cases r <;> first | exact hk _ _ _ hh | exact hh
      | dfr f args => exact hk _ _ _ H
      | pan v => exact H
  · rename_i hw
    rw [if_neg hw]
    exact hk _ _ _ H

theorem put_ne {t : Nat → V} {d : Option Nat} {v : V} {n : Nat} (h : d ≠ some n) : put t d v n = t n := by
  cases d with
  | none => rfl
  | some k => simp only [put]; rw [if_neg (fun e => h (by rw [e]))]

theorem put_self {t : Nat → V} {k : Nat} {v : V} : put t (some k) v k = v := by simp [put]

/-- Steady operations that may be taken at once. -/
structure Pend (x : X) (as : List A) (s : St) (P : List Nat) : Prop where
  val : ∀ j ∈ P, ∃ o e, as[j]? = some o ∧ o.dst = some e ∧ Val x o s.t s.h (s.t e)

theorem lin_go {ops : Array Oper} {as : List A} {L : List Nat} {Q : Ex → St → Prop} : ∀ (r : List (Nat × Option (List Nat))) (pv : List (Nat × Bool)) (s : St) (P : List Nat), linOk ops as L pv r = true → vLin x as L Q r s →
    Pend x as s P → (∀ j ∈ P, (j, false) ∈ pv) → (r.map (·.1)).Nodup → (∀ j ∈ P, j ∉ r.map (·.1)) →
    ∃ r' pv' s' P', linOk ops as L pv' r' = true ∧ vLin x as L Q r' s' ∧ Pend x as s' P' ∧ (∀ j ∈ P', (j, false) ∈ pv') ∧ s'.h = s.h ∧ s'.d = s.d ∧
      (∀ j, (j ∈ P' ∨ j ∈ r'.map (·.1)) ↔ (j ∈ P ∨ j ∈ r.map (·.1))) ∧ (∀ n, (∀ j ∈ P', dstOf as j ≠ some n) → s'.t n = s.t n) ∧ (∀ n j, j ∈ P → dstOf as j = some n → s'.t n = s.t n) ∧ (r' = [] ∨ ∃ i re r0, r' = (i, some re) :: r0) ∧
      (∀ j ∈ P', j ∈ P ∨ j ∈ r.map (·.1)) ∧ (∀ j ∈ P, j ∈ P') ∧ (∀ j ∈ P', j ∈ P ∨ nd as L j = []) ∧ (r'.map (·.1)).Nodup ∧ (∀ j ∈ P', j ∉ r'.map (·.1)) ∧ (∀ j ∈ P', j ∈ P ∨ (j, none) ∈ r) ∧ ∀ q ∈ r', q ∈ r
  | [], pv, s, P, hc, hv, hp, hpv, hn, hd => ⟨[], pv, s, P, hc, hv, hp, hpv, rfl, rfl, fun j => Iff.rfl, fun _ _ => rfl, fun _ _ _ _ => rfl, .inl rfl, fun j hj => .inl hj, fun j hj => hj, fun j hj => .inl hj, hn, hd, fun j hj => .inl hj, fun q hq => hq⟩
  | (i, some re) :: r, pv, s, P, hc, hv, hp, hpv, hn, hd => ⟨_, pv, s, P, hc, hv, hp, hpv, rfl, rfl, fun j => Iff.rfl, fun _ _ => rfl, fun _ _ _ _ => rfl, .inr ⟨i, re, r, rfl⟩, fun j hj => .inl hj, fun j hj => hj, fun j hj => .inl hj, hn, hd, fun j hj => .inl hj, fun q hq => hq⟩
  | (i, none) :: r, pv, s, P, hc, hv, hp, hpv, hn, hd => by
    obtain ⟨b, v, hb, hval, hr⟩ := hv
    simp only [linOk, hb, Bool.and_eq_true, List.all_eq_true] at hc
    obtain ⟨⟨⟨⟨hfr, hds⟩, hnd⟩, hself⟩, hc⟩ := hc
    obtain ⟨e, he⟩ := Option.isSome_iff_exists.1 hds
    rw [he] at hself
    simp only [Bool.not_eq_true', List.contains_eq_mem, decide_eq_false_iff_not] at hself
    have hfresh : ∀ j ∈ pv, ∀ c, as[j.1]? = some c → c.dst ≠ some e ∧ e ∉ c.looks := fun j hj c hcc => by
      have := hfr j hj
      rw [hcc, he] at this
      simpa using this
    have hp' : Pend x as { s with t := put s.t b.dst v } (i :: P) := ⟨fun j hj => by
      rcases List.mem_cons.1 hj with rfl | hj
      · refine ⟨b, e, hb, he, ?_⟩
        simp only [he, put_self]
        exact hval.congr fun n hn => (put_ne fun hh => hself (by cases hh; exact hn)).symm
      · obtain ⟨c, g, h1, h2, h3⟩ := hp.val j hj
        obtain ⟨f1, f2⟩ := hfresh _ (hpv j hj) c h1
        refine ⟨c, g, h1, h2, ?_⟩
        have : (put s.t b.dst v) g = s.t g := put_ne (by rw [he]; intro hh; cases hh; exact f1 h2)
        simp only [this]
        exact h3.congr fun n hn => (put_ne (by rw [he]; intro hh; cases hh; exact f2 hn)).symm⟩
    rw [List.map_cons, List.nodup_cons] at hn
    obtain ⟨r', pv', s', P', g1, g2, g3, g4, g5, g6, g7, g8, g9, g10, g11, g12, g13, g14, g15, g16, g17⟩ := lin_go r ((i, false) :: pv) _ (i :: P) hc hr hp' (fun j hj => by
      rcases List.mem_cons.1 hj with rfl | hj
      · exact List.mem_cons_self ..
      · exact List.mem_cons_of_mem _ (hpv j hj)) hn.2 (fun j hj => by
      rcases List.mem_cons.1 hj with rfl | hj
      · exact hn.1
      · exact fun h => hd j hj (by rw [List.map_cons]; exact List.mem_cons_of_mem _ h))
    refine ⟨r', pv', s', P', g1, g2, g3, g4, g5, g6, fun j => (g7 j).trans ?_, fun n hn => ?_, fun n j hj hn => ?_, g10, fun j hj => ?_, fun j hj => g12 j (List.mem_cons_of_mem _ hj), fun j hj => ?_, g14, g15, fun j hj => ?_, fun q hq => List.mem_cons_of_mem _ (g17 q hq)⟩
    · rw [List.mem_cons, List.map_cons, List.mem_cons, or_assoc, or_left_comm]
    · rw [g8 n hn]
      exact put_ne fun hh => hn i (g12 i (List.mem_cons_self ..)) (by simp [dstOf, hb, hh])
    · rw [g9 n j (List.mem_cons_of_mem _ hj) hn]
      obtain ⟨c, g, h1, h2, _⟩ := hp.val j hj
      obtain ⟨f1, _⟩ := hfresh _ (hpv j hj) c h1
      have : g = n := by simpa [dstOf, h1, h2] using hn
      subst this
      exact put_ne (by rw [he]; intro hh; cases hh; exact f1 h2)
    · rcases g11 j hj with h | h
      · rcases List.mem_cons.1 h with rfl | h
        · exact .inr (by simp)
        · exact .inl h
      · exact .inr (by simp; exact .inr (by simpa using h))
    · rcases g13 j hj with h | h
      · rcases List.mem_cons.1 h with rfl | h
        · exact .inr (by simpa using hnd)
        · exact .inl h
      · exact .inr h
    · rcases g16 j hj with h | h
      · rcases List.mem_cons.1 h with rfl | h
        · exact .inr (by simp)
        · exact .inl h
      · exact .inr (List.mem_cons_of_mem _ h)

theorem tell_h {as : List A} : ∀ (l : List Nat) (t t' : Nat → V) (h : Hp) (d : List (FuncId × List V)), (tell as l ⟨t, h, d⟩).h = (tell as l ⟨t', h, d⟩).h ∧ (tell as l ⟨t, h, d⟩).d = d ∧ (tell as l ⟨t', h, d⟩).d = d ∧
    ∀ n, (t n = t' n ∨ (∃ a ∈ l, ∃ z ty g, as[a]? = some ⟨some n, .new z ty, g⟩)) → (tell as l ⟨t, h, d⟩).t n = (tell as l ⟨t', h, d⟩).t n
  | [], t, t', h, d => ⟨rfl, rfl, rfl, fun n hn => by
      rcases hn with hn | ⟨a, ha, _⟩
      · exact hn
      · cases ha⟩
  | a :: l, t, t', h, d => by
    simp only [tell]
    by_cases hc : ∃ k z ty g, as[a]? = some ⟨some k, .new z ty, g⟩
    · obtain ⟨k, z, ty, g, hc⟩ := hc
      rw [hc]
      simp only [tell1]
      obtain ⟨h1, h2, h3, h4⟩ := tell_h l (put t (some k) (.ptr h.length 0)) (put t' (some k) (.ptr h.length 0)) (h ++ [some (.cells z ty)]) d
      refine ⟨h1, h2, h3, fun n hn => h4 n ?_⟩
      by_cases hk : n = k
      · subst hk; exact .inl (by rw [put_self, put_self])
      · have hk' : some k ≠ some n := fun e => hk (by cases e; rfl)
        rw [put_ne hk', put_ne hk']
        rcases hn with hn | ⟨b, hb, z', ty', g', hb'⟩
        · exact .inl hn
        · rcases List.mem_cons.1 hb with rfl | hb
          · rw [hc] at hb'; cases hb'; exact absurd rfl hk
          · exact .inr ⟨b, hb, z', ty', g', hb'⟩
    · have e : ∀ s : St, tell1 s as[a]? = s := fun s => by
        unfold tell1
        split
        · rename_i k z ty g hh
          exact absurd ⟨k, z, ty, g, hh⟩ hc
        · rfl
      rw [e, e]
      obtain ⟨h1, h2, h3, h4⟩ := tell_h l t t' h d
      refine ⟨h1, h2, h3, fun n hn => h4 n ?_⟩
      rcases hn with hn | ⟨b, hb, z', ty', g', hb'⟩
      · exact .inl hn
      · rcases List.mem_cons.1 hb with rfl | hb
        · exact absurd ⟨_, _, _, _, hb'⟩ hc
        · exact .inr ⟨b, hb, z', ty', g', hb'⟩

/-- Where the machine stands, and where the one order does. -/
structure LinAt (x : X) (ops : Array Oper) (as : List A) (L l0 l1 : List Nat) (Q : Ex → St → Prop) (listed : Array Bool) (m : St) (r : List (Nat × Option (List Nat))) (pv : List (Nat × Bool)) (s : St) (P U : List Nat) : Prop where
  ck : linOk ops as L pv r = true
  v : vLin x as L Q r s
  p : Pend x as s P
  pv : ∀ j ∈ P, (j, false) ∈ pv
  nd : ∀ j ∈ P, nd as L j = []
  h : m.h = s.h
  d : m.d = s.d
  t : ∀ n, (∀ j ∈ P, dstOf as j ≠ some n) → m.t n = s.t n
  hd : r = [] ∨ ∃ i re r0, r = (i, some re) :: r0
  un : ∀ k, k ∉ L → ((k ∈ P ∨ k ∈ r.map (·.1)) ↔ k ∈ U)
  sz : listed.size = ops.size
  u : ∀ k, k ∈ U ↔ k < ops.size ∧ listed.getD k true = false
  dn : ∀ j ∈ U, ∀ k ∈ ancs ops j, k ∈ U
  nl : ∀ k, (k ∈ P ∨ k ∈ r.map (·.1)) → k ∈ l0
  nr : (r.map (·.1)).Nodup
  dj : ∀ j ∈ P, j ∉ r.map (·.1)
  ps : ∀ j ∈ P, j ∈ l1
  rs : ∀ j, (j, none) ∈ r → j ∈ l1

theorem lin_any {ops : Array Oper} {as : List A} {L l0 l1 : List Nat} {Q : Ex → St → Prop}
    (hord : ordOk ops (Array.replicate ops.size false) [] (L ++ l0) = true) (hall : ∀ i, i < ops.size ↔ i ∈ L ++ l0)
    (hC : ∀ j, j < ops.size → ∀ k ∈ ancs ops j, k < ops.size ∧ ∃ o, ops[k]? = some o ∧ ∃ e ∈ o.after, Region.binds .any e = true ∧ (e.on = j ∨ e.on ∈ ancs ops j))
    (hlk : ∀ i ∈ l0, ∀ j ∈ l1, i ≠ j → ∀ o d, as[i]? = some o → dstOf as j = some d → d ∈ o.looks → i ∈ ancs ops j)
    (hL : ∀ i ∈ l0, i ∉ L) (hself : ∀ i ∈ l1, ∀ o d, as[i]? = some o → o.dst = some d → d ∉ o.looks) :
    ∀ (f : Nat) (listed : Array Bool) (m : St) (r : List (Nat × Option (List Nat))) (pv : List (Nat × Bool)) (s : St) (P U : List Nat), U.length ≤ f → U.Nodup →
      LinAt x ops as L l0 l1 Q listed m r pv s P U → vAnyL x ops as L Q f listed m := by
  have hend : ∀ (listed : Array Bool) (m : St) (r : List (Nat × Option (List Nat))) (pv : List (Nat × Bool)) (s : St) (P U : List Nat), LinAt x ops as L l0 l1 Q listed m r pv s P U → Region.ready .any ops listed = [] → Q .normal m := by
    intro listed m r pv s P U I h0
    have hU : U = [] := by
      by_cases hU : U = []
      · exact hU
      · obtain ⟨i, hi, o, ho, hh⟩ := ordOk_spec (L ++ l0) [] U hord (fun i hi => (hall i).1 ((I.u i).1 hi).1) hU
        have : i ∈ Region.ready .any ops listed := mem_ready.2 ⟨((I.u i).1 hi).2, o, ho, fun e he hb => by
          rcases hh e he hb with h1 | h1 | ⟨h1, h2⟩
          · by_cases hlt : e.on < ops.size <;> simp [Array.getD, hlt] at h1
          · cases h1
          · have hlt := (hall e.on).2 h1
            have h3 : ¬ listed.getD e.on true = false := fun h => h2 ((I.u e.on).2 ⟨hlt, h⟩)
            have hlt' : e.on < listed.size := by rw [I.sz]; exact hlt
            simpa [Array.getD, hlt'] using h3⟩
        rw [h0] at this; cases this
    subst hU
    have hno : ∀ k, ¬ (k ∈ P ∨ k ∈ r.map (·.1)) := fun k hk => by
      have := (I.un k (hL k (I.nl k hk))).1 hk
      cases this
    have hP : P = [] := List.eq_nil_iff_forall_not_mem.2 fun k hk => hno k (.inl hk)
    have hr : r = [] := by
      cases r with
      | nil => rfl
      | cons q r => exact absurd (.inr (by simp)) (hno q.1)
    subst hP; subst hr
    have : m = s := by
      have h1 : m.t = s.t := funext fun n => I.t n (fun j hj => by cases hj)
      have h2 := I.h
      have h3 := I.d
      cases m; cases s
      simp_all
    rw [this]
    exact I.v
  intro f
  induction f with
  | zero =>
    intro listed m r pv s P U hf hn I
    have hU : U = [] := List.eq_nil_of_length_eq_zero (by omega)
    have h0 : Region.ready .any ops listed = [] := List.eq_nil_iff_forall_not_mem.2 fun i hi => by
      obtain ⟨h1, o, ho, _⟩ := mem_ready.1 hi
      have : i ∈ U := (I.u i).2 ⟨(Array.getElem?_eq_some_iff.1 ho).1, h1⟩
      rw [hU] at this; cases this
    exact ⟨h0, hend _ _ _ _ _ _ _ I h0⟩
  | succ f ih =>
    intro listed m r pv s P U hf hn I
    refine ⟨fun h0 => hend _ _ _ _ _ _ _ I h0, fun i hi => ?_⟩
    obtain ⟨hi1, o, ho, haft⟩ := mem_ready.1 hi
    have hilt : i < ops.size := (Array.getElem?_eq_some_iff.1 ho).1
    have hiU : i ∈ U := (I.u i).2 ⟨hilt, hi1⟩
    have notready : ∀ j ∈ U, i ∉ ancs ops j := fun j hj hh => by
      obtain ⟨_, o', ho', e, he, hb, hon⟩ := hC j ((I.u j).1 hj).1 i hh
      rw [ho] at ho'; cases ho'
      have h1 := haft e he hb
      have h2 : e.on ∈ U := by
        rcases hon with h | h
        · rw [h]; exact hj
        · exact I.dn j hj _ h
      have h3 := (I.u _).1 h2
      have hlt' : e.on < listed.size := by rw [I.sz]; exact h3.1
      have h4 := h3.2
      simp [Array.getD, hlt'] at h1 h4
      rw [h1] at h4; cases h4
    have hu' : ∀ k, k ∈ U.erase i ↔ k < ops.size ∧ (listed.setIfInBounds i true).getD k true = false := fun k => by
      rw [hn.mem_erase_iff, I.u k]
      by_cases hk : k = i
      · subst hk
        have : k < listed.size := by rw [I.sz]; exact hilt
        simp [Array.getD, this]
      · by_cases hkl : k < listed.size
        · simp [Array.getD, hkl, hk, Array.getElem_setIfInBounds, Ne.symm hk]
        · simp [Array.getD, hkl]
    have hdn' : ∀ j ∈ U.erase i, ∀ k ∈ ancs ops j, k ∈ U.erase i := fun j hj k hk => by
      rw [hn.mem_erase_iff] at hj ⊢
      exact ⟨fun e => notready j hj.2 (e ▸ hk), I.dn j hj.2 k hk⟩
    have hlen' : (U.erase i).length ≤ f := by rw [List.length_erase_of_mem hiU]; omega
    have hnd' : (U.erase i).Nodup := hn.erase i
    have hsz' : (listed.setIfInBounds i true).size = ops.size := by simp [I.sz]
    by_cases hiL : i ∈ L
    · rw [if_pos hiL]
      refine ih _ m r pv s P (U.erase i) hlen' hnd' ⟨I.ck, I.v, I.p, I.pv, I.nd, I.h, I.d, I.t, I.hd, fun k hk => ?_, hsz', hu', hdn', I.nl, I.nr, I.dj, I.ps, I.rs⟩
      rw [I.un k hk, hn.mem_erase_iff]
      exact ⟨fun h => ⟨fun e => hk (e ▸ hiL), h⟩, fun h => h.2⟩
    · rw [if_neg hiL]
      have hil0 : i ∈ l0 := by
        rcases List.mem_append.1 ((hall i).1 hilt) with h | h
        · exact absurd h hiL
        · exact h
      -- what i looks at is there
      have hlook : ∀ b, as[i]? = some b → ∀ n ∈ b.looks, (∀ j ∈ P, j ≠ i → dstOf as j ≠ some n) := fun b hb n hnl j hj hji hd => by
        have hjl : j ∈ l0 := I.nl j (.inl hj)
        have hjU : j ∈ U := (I.un j (hL j hjl)).1 (.inl hj)
        exact notready j hjU (hlk i hil0 j (I.ps j hj) (Ne.symm hji) b n hb hd hnl)
      by_cases hiP : i ∈ P
      · obtain ⟨b, e, hb, he, hval⟩ := I.p.val i hiP
        refine ⟨b, hb, ?_⟩
        rw [I.nd i hiP]
        simp only [tell]
        have hm : Val x b m.t m.h (s.t e) := by
          rw [I.h]
          refine hval.congr fun n hnl => (I.t n fun j hj hd => ?_).symm
          by_cases hji : j = i
          · subst hji
            exact hself j (I.ps j hj) b n hb (by simpa [dstOf, hb] using hd) hnl
          · exact hlook b hb n hnl j hj hji hd
        refine Val.vop hm (ih _ _ r pv s (P.filter (· ≠ i)) (U.erase i) hlen' hnd' ⟨I.ck, I.v, ⟨fun j hj => I.p.val j (List.mem_filter.1 hj).1⟩, fun j hj => I.pv j (List.mem_filter.1 hj).1, fun j hj => I.nd j (List.mem_filter.1 hj).1, I.h, I.d, fun n hnn => ?_, I.hd, fun k hk => ?_, hsz', hu', hdn', fun k hk => ?_, I.nr, fun j hj => I.dj j (List.mem_filter.1 hj).1, fun j hj => I.ps j (List.mem_filter.1 hj).1, I.rs⟩)
        · simp only
          by_cases hne : b.dst = some n
          · rw [hne, put_self]
            rw [he] at hne; cases hne; rfl
          · rw [put_ne hne]
            refine I.t n fun j hj hd => ?_
            by_cases hji : j = i
            · subst hji
              exact hne (by simpa [dstOf, hb] using hd)
            · exact hnn j (List.mem_filter.2 ⟨hj, by simpa using hji⟩) hd
        · rw [hn.mem_erase_iff, ← I.un k hk, List.mem_filter]
          constructor
          · rintro (⟨h, hne⟩ | h)
            · exact ⟨by simpa using hne, .inl h⟩
            · exact ⟨fun e => I.dj i hiP (e ▸ h), .inr h⟩
          · rintro ⟨hne, h | h⟩
            · exact .inl ⟨h, by simpa using hne⟩
            · exact .inr h
        · rcases hk with h | h
          · exact I.nl k (.inl (List.mem_filter.1 h).1)
          · exact I.nl k (.inr h)
      · have hir : i ∈ r.map (·.1) := by
          rcases (I.un i hiL).2 hiU with h | h
          · exact absurd h hiP
          · exact h
        rcases I.hd with hr | ⟨i0, re, r0, hr⟩
        · rw [hr] at hir; cases hir
        subst hr
        have hi0 : i = i0 := by
          rw [List.map_cons, List.mem_cons] at hir
          rcases hir with h | h
          · exact h
          · exfalso
            have hck := I.ck
            unfold linOk at hck
            have h0U : i0 ∈ U := (I.un i0 (hL i0 (I.nl i0 (.inr (by simp))))).1 (.inr (by simp))
            obtain ⟨q, hq, rfl⟩ := List.mem_map.1 h
            cases hb : as[i0]? with
            | none => rw [hb] at hck; simp at hck
            | some b =>
              rw [hb] at hck
              simp only [Bool.and_eq_true, List.all_eq_true] at hck
              have := hck.1.2 q hq
              exact notready i0 h0U (by simpa [waits] using this)
        subst hi0
        obtain ⟨b, hb, hv⟩ := I.v
        refine ⟨b, hb, ?_⟩
        have hck := I.ck
        simp only [linOk, hb, Bool.and_eq_true, List.all_eq_true] at hck
        obtain ⟨⟨hpre, hpost⟩, hck⟩ := hck
        have hnr := I.nr
        rw [List.map_cons, List.nodup_cons] at hnr
        obtain ⟨e1, e2, e3, e4⟩ := tell_h (as := as) (nd as L i) s.t m.t s.h s.d
        have hteq : ∀ n, s.t n = m.t n → (tell as (nd as L i) s).t n = (tell as (nd as L i) m).t n := fun n hn => by
          have := e4 n (.inl hn)
          have hm : m = ⟨m.t, s.h, s.d⟩ := by rw [← I.h, ← I.d]
          rw [hm]
          exact this
        have hh : (tell as (nd as L i) m).h = (tell as (nd as L i) s).h ∧ (tell as (nd as L i) m).d = (tell as (nd as L i) s).d := by
          have hm : m = ⟨m.t, s.h, s.d⟩ := by rw [← I.h, ← I.d]
          rw [hm]
          exact ⟨e1.symm, e3.trans e2.symm⟩
        generalize hts : tell as (nd as L i) s = ts at hv hteq hh
        generalize htm : tell as (nd as L i) m = tm at hteq hh
        obtain ⟨tst, tsh, tsd⟩ := ts
        obtain ⟨tmt, tmh, tmd⟩ := tm
        obtain ⟨hh1, hh2⟩ := hh
        simp only at hh1 hh2 hteq
        subst hh1; subst hh2
        refine vop_congr (t := tst) (fun n hnl => hteq n (I.t n fun j hj hd => hlook b hb n hnl j hj (fun e => hiP (e ▸ hj)) hd).symm) ?_ hv
        rintro v h' d' ⟨hre, hv0⟩
        have hPre : ∀ j ∈ P, j ∈ re := fun j hj => by
          have hjU : j ∈ U := (I.un j (hL j (I.nl j (.inl hj)))).1 (.inl hj)
          have := hpre _ (I.pv j hj)
          simp only [Bool.or_eq_true, Bool.and_eq_true, Bool.not_false, List.contains_iff_mem, waits] at this
          rcases this with h | h
          · exact absurd h (notready j hjU)
          · exact h.2
        obtain ⟨r', pv', s', P', g1, g2, g3, g4, g5, g6, g7, g8, g9, g10, g11, g12, g13, g14, g15, g16, g17⟩ := lin_go r0 _ ⟨put tst b.dst v, h', d'⟩ P hck hv0 ⟨fun j hj => hre j (hPre j hj)⟩ (fun j hj => List.mem_cons_of_mem _ (I.pv j hj)) hnr.2 (fun j hj hh => I.dj j hj (by rw [List.map_cons]; exact List.mem_cons_of_mem _ hh))
        refine ih _ _ r' pv' s' P' (U.erase i) hlen' hnd' ⟨g1, g2, g3, g4, fun j hj => ?_, g5.symm, g6.symm, fun n hnn => ?_, g10, fun k hk => ?_, hsz', hu', hdn', fun k hk => ?_, g14, g15, fun j hj => (g16 j hj).elim (I.ps j) fun h => I.rs j (List.mem_cons_of_mem _ h), fun j hj => I.rs j (List.mem_cons_of_mem _ (g17 _ hj))⟩
        · rcases g13 j hj with h | h
          · exact I.nd j h
          · exact h
        · rw [g8 n hnn]
          simp only
          by_cases hne : b.dst = some n
          · rw [hne, put_self, put_self]
          · rw [put_ne hne, put_ne hne]
            exact (hteq n (I.t n fun j hj => hnn j (g12 j hj)).symm).symm
        · rw [g7 k, hn.mem_erase_iff, ← I.un k hk, List.map_cons, List.mem_cons]
          constructor
          · rintro (h | h)
            · exact ⟨fun e => hiP (e ▸ h), .inl h⟩
            · exact ⟨fun e => hnr.1 (e ▸ h), .inr (.inr h)⟩
          · rintro ⟨hne, h | h | h⟩
            · exact .inl h
            · exact absurd h hne
            · exact .inr h
        · rcases (g7 k).1 hk with h | h
          · exact I.nl k (.inl h)
          · exact I.nl k (.inr (by rw [List.map_cons]; exact List.mem_cons_of_mem _ h))
end
end Go.Vs
namespace Go.Vs
open Go.RowKit

def Env.with (E : Env) (H : Nat → Option Obj) : Env := { E with hid := H }

theorem VR.rehid {E : Env} {H : Nat → Option Obj} {x : V} {v : Value} (h : VR E x v) : VR (E.with H) x v := by
  induction h with
  | bool b => exact .bool b
  | int k n => exact .int k n
  | str s => exact .str s
  | nptr => exact .nptr
  | ptr β o a hn h => exact .ptr β o a hn h
  | fp cs off b p vals h1 _ h3 ih => exact .fp cs off b p vals h1 ih h3
  | nsl => exact .nsl
  | sl β off len cap ex es ag a cap' hn hl hc hex h => exact .sl β off len cap ex es ag a cap' hn hl hc hex h
  | lst ex xs es a b p cap vals hc hex hes ha h1 _ h3 ih => exact .lst ex xs es a b p cap vals hc hex hes ha h1 ih h3
  | nmap => exact .nmap
  | map β r hn h => exact .map β r hn h
  | fn f first cap first' cap' hl hc _ _ ih1 ih2 => exact .fn f first cap first' cap' hl hc ih1 ih2
  | nfn => exact .nfn
  | ifc t x v _ ih => exact .ifc t x v ih
  | nifc => exact .nifc
  | agg cs vs hl _ h1 ih => exact .agg cs vs hl ih h1
  | tup cs vs hl _ ih => exact .tup cs vs hl ih

theorem BR.rehid {E : Env} {H : Nat → Option Obj} {B : Nat} {w : World} {l : Loc} {x : Blk} (h : BR B E w l x) : BR B (E.with H) w l x := by
  cases x with
  | cells cs ty =>
    obtain ⟨g0, g1, g2, g3, g4⟩ := h
    exact ⟨g0, g1, g2, g3, fun j hj => let ⟨a1, v, a2, a3, a4⟩ := g4 j hj; ⟨a1, v, a2, a3.rehid, a4⟩⟩
  | map es =>
    obtain ⟨g1, g0, g2, ms, clock, g3, g4, g5⟩ := h
    exact ⟨g1, g0, g2, ms, clock, g3, g4, fun j e m he hm => ⟨(g5 j e m he hm).1.rehid, (g5 j e m he hm).2.rehid⟩⟩

section
variable {x : X} {w0 w : World} {N : Nat} {E : Env} {h : Hp} {s : St} {a : Act} {H : Nat → Option Obj}

theorem SR.rehid (hs : SR w0 E h w) (hH : ∀ b o, H b = some o → w.heap[b]? = some o ∧ (∀ p, E.frz b p = none) ∧ ∀ β l, E.mu β = some l → l.b ≠ b) : SR w0 (E.with H) h w :=
  ⟨hs.len, hs.below, hs.frz, fun β x hx => let ⟨l, h1, h2⟩ := hs.blk β x hx; ⟨l, h1, h2.rehid⟩, hs.non, hs.dis, hs.dfr, hs.old, hH⟩

theorem SR.less (hs : SR w0 E h w) (hH : ∀ b o, H b = some o → E.hid b = some o) : SR w0 (E.with H) h w := hs.rehid fun b o ho => hs.hid b o (hH b o ho)

theorem SRel.less (hs : SRel x w0 N E s a w) (hH : ∀ b o, H b = some o → E.hid b = some o) : SRel x w0 N (E.with H) s a w :=
  ⟨hs.sr.less hH, fun g => (hs.gr g).rehid, fun n => (hs.tm n).rehid, hs.sz, hs.df.1, fun j d u hd hu => let ⟨c, h1, h2⟩ := hs.df.2 j d u hd hu; ⟨c, h1, h2.1, fun j x v hx hv => (h2.2 j x v hx hv).rehid⟩⟩

theorem Lift.less {E0 : Env} {Q : Ex → St → Prop} {e : Exit} (h : Lift x w0 N (E0.with H) Q e a w) (hH : ∀ b o, E0.hid b = some o → H b = some o) : Lift x w0 N E0 Q e a w := by
  obtain ⟨E', s, y, hE, hs, hy, hq⟩ := h
  refine ⟨E'.with E0.hid, s, y, ⟨hE.n, hE.mu, hE.frz, hE.old, rfl⟩, hs.less fun b o ho => ?_, ?_, hq⟩
  · rw [hE.hid]; exact hH b o ho
  · cases y <;> cases e <;> first | exact hy | (obtain ⟨v, h1, h2⟩ := hy; exact ⟨v, h1.rehid, h2⟩)

/-- A new block that has all its zeros. -/
structure Zeros (w0 : World) (z : List V) (ty : Option TypeId) (b : Nat) (o : Obj) : Prop where
  ge : w0.heap.size ≤ b
  obj : ∃ (c : Array Value) (t : TypeId), o = .cells c t ∧ ckVs c.toList z = true ∧ ∀ T, ty = some T → T = t

theorem SR.tell (hs : SR w0 E h w) {z : List V} {ty : Option TypeId} {b : Nat} {o : Obj} (ho : E.hid b = some o) (hz : Zeros w0 z ty b o) (hold : ∀ j, ¬ E.old b j) :
    ∃ l : Loc, l.b = b ∧ l.base = 0 ∧ SR w0 ((E.with fun k => if k = b then none else E.hid k).add l) (h ++ [some (.cells z ty)]) w := by
  obtain ⟨c, t, rfl, hc, hty⟩ := hz.obj
  obtain ⟨h1, h2, h3⟩ := hs.hid b _ ho
  have hless : SR w0 (E.with fun k => if k = b then none else E.hid k) h w := hs.less fun k o hk => by
    split at hk
    · cases hk
    · exact hk
  have hlt := hs.hid_lt ho
  have hv := ckVs_spec (E := (E.with fun k => if k = b then none else E.hid k).add ⟨b, 0, fun k j => k = b ∧ j < c.size⟩) hc
  refine ⟨⟨b, 0, fun k j => k = b ∧ j < c.size⟩, rfl, rfl, hless.adopt _ _ ⟨fun T hT => ⟨rfl, c.size, ?_, fun o ho => ⟨rfl, ho⟩⟩, hz.ge, hlt, fun k j hk => ⟨hk.1, ?_, ?_⟩, fun j hj => ?_⟩ ?_ ?_ ?_ ?_⟩
  · have := hty T hT
    subst this
    show w.shape? b = _
    unfold World.shape?
    rw [h1]
  · obtain ⟨hk1, hj⟩ := hk
    have hcell : w.cell? ⟨k, j, none⟩ = c[j]? := by
      rw [hk1]
      unfold World.cell?
      rw [h1]
      rfl
    rw [hcell, Array.getElem?_eq_getElem hj]
    rfl
  · obtain ⟨hk1, hj⟩ := hk
    rw [hk1]
    unfold World.frozen?
    rw [h1]
    rfl
  · have hj' : j < c.toList.length := by rw [hv.1]; exact hj
    have h5 := hv.2 j _ (List.getElem?_eq_getElem hj')
    have hjc : j < c.size := by simpa using hj'
    refine ⟨⟨rfl, by simpa using hjc⟩, c[j], ?_, ?_, ?_⟩
    · show w.cell? ⟨b, 0 + j, none⟩ = _
      unfold World.cell?
      rw [h1, Nat.zero_add]
      show c[j]? = _
      rw [Array.getElem?_eq_getElem hjc]
    · have := h5.2 _ (List.getElem?_eq_getElem hj)
      simpa using this
    · have := h5.1
      simpa using this
  · rintro β l' k j hm ho1 ⟨rfl, _⟩
    have hm' : E.mu β = some l' := hm
    obtain ⟨y, hy⟩ := hs.non β l' hm'
    obtain ⟨l2, hm2, hr⟩ := hs.blk β y hy
    rw [hm'] at hm2; cases hm2
    exact h3 β l' hm' (hr.own _ _ ho1).symm
  · rintro k j ⟨rfl, _⟩
    exact h2 j
  · rintro k j ⟨rfl, _⟩ ho
    exact hold j ho
  · simp [Env.with]

/-- The machine stands here; the new blocks of 'pend' are there, and are not told yet. -/
structure HSt (x : X) (w0 : World) (N : Nat) (E : Env) (as : List A) (s : St) (a : Act) (w : World) (pend : List Nat) (blk : Nat → Nat) (Hd : Nat → Option Obj) : Prop where
  sr : SR w0 (E.with Hd) s.h w
  gr : GR x E
  tm : ∀ n, (∀ p ∈ pend, dstOf as p ≠ some n) → VR E (s.t n) (a.tmps.getD n undef)
  pt : ∀ p ∈ pend, ∀ d, dstOf as p = some d → a.tmps.getD d undef = .pointer (some ⟨blk p, 0, none⟩)
  sz : a.tmps.size = N
  df : DR E s.d a.defers
  ext : ∀ b o, E.hid b = some o → Hd b = some o
  hd : ∀ p ∈ pend, ∃ d z ty o, as[p]? = some ⟨some d, .new z ty, none⟩ ∧ Hd (blk p) = some o ∧ Zeros w0 z ty (blk p) o ∧ (∀ j, ¬ E.old (blk p) j) ∧ E.hid (blk p) = none
  inj : ∀ p ∈ pend, ∀ q ∈ pend, blk p = blk q → p = q

theorem HSt.tell1 {as : List A} {pend : List Nat} {blk : Nat → Nat} {Hd : Nat → Option Obj} (I : HSt x w0 N E as s a w pend blk Hd) {p : Nat} (hp : p ∈ pend)
    (hds : ∀ q ∈ pend, q ≠ p → dstOf as q ≠ dstOf as p) :
    ∃ E' Hd', Le E E' ∧ HSt x w0 N E' as (tell1 s as[p]?) a w (pend.filter (· ≠ p)) blk Hd' := by
  obtain ⟨d, z, ty, o, h1, h2, h3, h4, h5⟩ := I.hd p hp
  obtain ⟨l, hb, hbase, hs⟩ := SR.tell I.sr h2 h3 h4
  refine ⟨E.add l, fun k => if k = blk p then none else Hd k, Le.add E l, ?_⟩
  rw [h1]
  simp only [Vs.tell1]
  have hdp : dstOf as p = some d := by simp [dstOf, h1]
  refine ⟨hs, fun g => (I.gr g).mono (Le.add E l), fun n hn => ?_, fun q hq => I.pt q (List.mem_filter.1 hq).1, I.sz, I.df.mono (Le.add E l), fun b o' ho => ?_, fun q hq => ?_, fun q hq r hr => I.inj q (List.mem_filter.1 hq).1 r (List.mem_filter.1 hr).1⟩
  · by_cases hnd : n = d
    · subst hnd
      simp only
      rw [put_self, I.pt p hp _ hdp]
      have hlen : s.h.length = E.n := I.sr.len
      refine .ptr _ _ _ (by rw [hlen]; exact Nat.lt_succ_self _) fun l' hl' => ?_
      simp only [Env.add, hlen, if_true] at hl'
      cases hl'
      rw [hb, hbase]
    · have : some d ≠ some n := fun e => hnd (by cases e; rfl)
      simp only
      rw [put_ne this]
      refine (I.tm n fun q hq hqn => ?_).mono (Le.add E l)
      by_cases hqp : q = p
      · subst hqp
        rw [hdp] at hqn; exact this hqn
      · exact hn q (List.mem_filter.2 ⟨hq, by simpa using hqp⟩) hqn
  · have ho' : E.hid b = some o' := ho
    have : b ≠ blk p := fun e => by rw [e, h5] at ho'; cases ho'
    rw [if_neg this]
    exact I.ext b o' ho'
  · obtain ⟨hq1, hq2⟩ := List.mem_filter.1 hq
    have hqp : q ≠ p := by simpa using hq2
    obtain ⟨d', z', ty', o', g1, g2, g3, g4, g5⟩ := I.hd q hq1
    refine ⟨d', z', ty', o', g1, ?_, g3, g4, g5⟩
    rw [if_neg fun e => hqp (I.inj q hq1 p hp e)]
    exact g2

theorem HSt.tell {as : List A} {blk : Nat → Nat} : ∀ (l : List Nat) {pend : List Nat} {E : Env} {s : St} {Hd : Nat → Option Obj}, HSt x w0 N E as s a w pend blk Hd → (∀ p ∈ l, p ∈ pend) → l.Nodup →
    (∀ q ∈ pend, ∀ p ∈ pend, q ≠ p → dstOf as q ≠ dstOf as p) →
    ∃ E' Hd', Le E E' ∧ HSt x w0 N E' as (tell as l s) a w (pend.filter fun p => !l.contains p) blk Hd'
  | [], pend, E, s, Hd, I, _, _, _ => ⟨E, Hd, Le.refl E, by
      have : (pend.filter fun p => !([] : List Nat).contains p) = pend := by simp
      rw [this]; exact I⟩
  | p :: l, pend, E, s, Hd, I, hl, hn, hds => by
    rw [List.nodup_cons] at hn
    obtain ⟨E1, Hd1, hE1, I1⟩ := I.tell1 (hl p (by simp)) fun q hq hqp => hds q hq p (hl p (by simp)) hqp
    obtain ⟨E2, Hd2, hE2, I2⟩ := HSt.tell l I1 (fun q hq => List.mem_filter.2 ⟨hl q (List.mem_cons_of_mem _ hq), by simpa using fun e : q = p => hn.1 (e ▸ hq)⟩) hn.2 fun q hq r hr => hds q (List.mem_filter.1 hq).1 r (List.mem_filter.1 hr).1
    refine ⟨E2, Hd2, hE1.trans hE2, ?_⟩
    have : (pend.filter fun q => !(p :: l).contains q) = (pend.filter (· ≠ p)).filter fun q => !l.contains q := by
      rw [List.filter_filter]
      congr 1
      funext q
      by_cases hqp : q = p <;> by_cases hql : q ∈ l <;> simp [hqp, hql]
    rw [this]
    exact I2

/-- The temporaries of blocks that are not told are put aside. -/
def maskT (as : List A) (pend : List Nat) (t : Nat → V) : Nat → V := fun n => if pend.any (fun p => dstOf as p == some n) then .fp [] 0 else t n

theorem maskT_off {as : List A} {pend : List Nat} {t : Nat → V} {n : Nat} (h : ∀ p ∈ pend, dstOf as p ≠ some n) : maskT as pend t n = t n := by
  unfold maskT
  rw [if_neg]
  simpa using h

theorem HSt.mask {as : List A} {pend : List Nat} {blk : Nat → Nat} {Hd : Nat → Option Obj} (I : HSt x w0 N E as s a w pend blk Hd) :
    SRel x w0 N (E.with Hd) ⟨maskT as pend s.t, s.h, s.d⟩ a w := by
  refine ⟨I.sr, fun g => (I.gr g).rehid, fun n => ?_, I.sz, I.df.1, fun j d u hd hu => let ⟨c, h1, h2⟩ := I.df.2 j d u hd hu; ⟨c, h1, h2.1, fun j x v hx hv => (h2.2 j x v hx hv).rehid⟩⟩
  by_cases hn : ∀ p ∈ pend, dstOf as p ≠ some n
  · simp only
    rw [maskT_off hn]
    exact (I.tm n hn).rehid
  · have : ∃ p ∈ pend, dstOf as p = some n := by
      simpa using hn
    obtain ⟨p, hp, hd⟩ := this
    have : maskT as pend s.t n = .fp [] 0 := by
      unfold maskT
      rw [if_pos]
      simp only [List.any_eq_true, beq_iff_eq]
      exact ⟨p, hp, hd⟩
    simp only [this]
    rw [I.pt p hp n hd]
    exact .fp [] 0 (blk p) 0 (fun _ => undef) (fun j hj => by simp at hj) (fun j hj => by simp at hj) (fun j hj => by simp at hj)

theorem wp_monoQ {P : Program} {o : Oper} {K : Act → World → Prop} {Q Q' : Exit → Act → World → Prop} (h : ∀ e a w, Q e a w → Q' e a w) (hh : o.wp P a w K Q) : o.wp P a w K Q' := by
  unfold Oper.wp at *
  generalize (execOp a.eval o).run P w = r at *
  cases r with
  | ok n w' =>
    cases n <;> simp only [Oper.upon] at hh ⊢ <;>
      first
        | exact hh
        | exact Calls.mono hh (fun e w'' he => by cases e <;> first | exact he | exact h _ _ _ he | exact he.elim fun a hw => hw.elim fun w hq => ⟨a, w, h _ _ _ hq⟩)
  | halt y w' => cases y <;> simp only [Oper.upon] at hh ⊢ <;> first | exact hh | exact h _ _ _ hh

theorem HSt.perm {as : List A} {pend pend' : List Nat} {blk : Nat → Nat} {Hd : Nat → Option Obj} (I : HSt x w0 N E as s a w pend blk Hd) (h : ∀ p, p ∈ pend' ↔ p ∈ pend) : HSt x w0 N E as s a w pend' blk Hd :=
  ⟨I.sr, I.gr, fun n hn => I.tm n fun p hp => hn p ((h p).2 hp), fun p hp => I.pt p ((h p).1 hp), I.sz, I.df, I.ext, fun p hp => I.hd p ((h p).1 hp), fun p hp q hq => I.inj p ((h p).1 hp) q ((h q).1 hq)⟩

/-- A new block is made, and nothing is told of it. -/
theorem HSt.made {as : List A} {pend : List Nat} {blk : Nat → Nat} {Hd : Nat → Option Obj} (I : HSt x w0 N E as s a w pend blk Hd) {p d : Nat} {z : List V} {ty : Option TypeId} (hp : p ∉ pend)
    (has : as[p]? = some ⟨some d, .new z ty, none⟩) (hds : ∀ q ∈ pend, dstOf as q ≠ some d) {o : Oper} (hc : ∃ ops, ckA x.P N ops o ⟨some d, .new z ty, none⟩ = true) {K : Act → World → Prop} {Q : Exit → Act → World → Prop}
    (hK : ∀ a' w' blk' Hd', HSt x w0 N E as s a' w' (p :: pend) blk' Hd' → K a' w') : o.wp x.P a w K Q := by
  obtain ⟨ops, hc⟩ := hc
  simp only [ckA, Bool.and_eq_true, beq_iff_eq, decide_eq_true_eq] at hc
  obtain ⟨⟨⟨hdst, hd⟩, hi⟩, _⟩ := hc
  have hop : ∃ t zv, o.op = .alloc t ∧ tZero x.P t = some zv ∧ ckVs zv.cells.toList z = true ∧ ∀ T, ty = some T → T = t := by
    cases ho : o.op <;> rw [ho] at hi <;> simp only [ckI, Bool.and_eq_true, Bool.false_eq_true] at hi <;> try (cases hi; done)
    rotate_left
    · rename_i c
      cases hcal : c.callee with
      | builtin b => rw [hcal] at hi; cases b <;> simp at hi
      | value p => rw [hcal] at hi; simp at hi
      | invoke r m => rw [hcal] at hi; simp at hi
    rename_i t
    obtain ⟨h1, h2⟩ := hi
    split at h2
    · rename_i zv hz
      exact ⟨t, zv, rfl, hz, h2, ckTy_spec h1⟩
    · cases h2
  obtain ⟨t, zv, hop, hz, hck, hty⟩ := hop
  have hrun : (execOp a.eval o).run x.P w = .ok (.value (.pointer (some ⟨w.heap.size, 0, none⟩))) (w.alloc (.cells zv.cells t)) := by
    unfold execOp
    rw [hop]
    simp [Instr.alloc, run_zero hz, newVar, newRow]
  unfold Oper.wp
  rw [hrun, Oper.upon_value, hdst]
  have hdN : d < a.tmps.size := by rw [I.sz]; exact hd
  refine hK _ _ (fun q => if q = p then w.heap.size else blk q) (fun b => if b = w.heap.size then some (.cells zv.cells t) else Hd b) ?_
  have hsize : (w.alloc (.cells zv.cells t)).heap.size = w.heap.size + 1 := by simp
  have hlt : ∀ q ∈ pend, blk q < w.heap.size := fun q hq => by
    obtain ⟨_, _, _, _, _, h2, _⟩ := I.hd q hq
    exact I.sr.hid_lt h2
  have hdp : dstOf as p = some d := by simp [dstOf, has]
  have hj := SR.junk I.sr (.cells zv.cells t)
  refine ⟨hj.rehid (H := fun b => if b = w.heap.size then some (.cells zv.cells t) else Hd b) fun b o' ho => ?_, I.gr, fun n hn => ?_, fun q hq d' hd' => ?_, by simp [Act.put, I.sz], I.df, fun b o' ho => ?_, fun q hq => ?_, fun q hq r hr he => ?_⟩
  · split at ho
    · rename_i hb
      subst hb
      cases ho
      refine ⟨?_, fun p => ?_, fun β l hm he => ?_⟩
      · unfold World.alloc
        simp
      · cases hf : (E.with Hd).frz w.heap.size p with
        | none => rfl
        | some v => exact absurd (I.sr.frz_lt hf) (Nat.lt_irrefl _)
      · obtain ⟨y, hy⟩ := I.sr.non β l hm
        obtain ⟨l2, hm2, hr⟩ := I.sr.blk β y hy
        rw [hm] at hm2; cases hm2
        have := hr.lt
        omega
    · exact hj.hid b o' ho
  · have hne : d ≠ n := fun e => hn p (by simp) (by rw [hdp, e])
    rw [getD_put fun e => hne (by cases e; rfl)]
    exact I.tm n fun q hq => hn q (List.mem_cons_of_mem _ hq)
  · rcases List.mem_cons.1 hq with rfl | hq
    · rw [hdp] at hd'
      cases hd'
      simp [Act.put, hdN, Array.getD_eq_getD_getElem?]
    · have hqp : q ≠ p := fun e => hp (e ▸ hq)
      have hne : some d ≠ some d' := fun e => hds q hq (by rw [hd', ← e])
      rw [getD_put hne, if_neg hqp]
      exact I.pt q hq d' hd'
  · have h1 := I.ext b o' ho
    have := I.sr.hid_lt (E := E.with Hd) h1
    rw [if_neg (by omega)]
    exact h1
  · rcases List.mem_cons.1 hq with rfl | hq
    · refine ⟨d, z, ty, .cells zv.cells t, has, by simp, ?_, fun j ho => ?_, ?_⟩
      · simp only [if_true]
        exact ⟨I.sr.below.size, zv.cells, t, rfl, hck, hty⟩
      · simp only [if_true] at ho
        exact absurd (I.sr.old _ _ ho).1 (Nat.lt_irrefl _)
      · simp only [if_true]
        cases hh : E.hid w.heap.size with
        | none => rfl
        | some o' => exact absurd (I.sr.hid_lt (E := E.with Hd) (I.ext _ _ hh)) (Nat.lt_irrefl _)
    · have hqp : q ≠ p := fun e => hp (e ▸ hq)
      obtain ⟨d', z', ty', o', g1, g2, g3, g4, g5⟩ := I.hd q hq
      refine ⟨d', z', ty', o', g1, ?_, ?_, ?_, ?_⟩ <;> rw [if_neg hqp]
      · rw [if_neg (by have := hlt q hq; omega)]; exact g2
      · exact g3
      · exact g4
      · exact g5
  · rcases List.mem_cons.1 hq with h1 | h1 <;> rcases List.mem_cons.1 hr with h2 | h2
    · rw [h1, h2]
    · have hrp : r ≠ p := fun e => hp (e ▸ h2)
      rw [if_pos h1, if_neg hrp] at he
      have := hlt r h2
      omega
    · have hqp : q ≠ p := fun e => hp (e ▸ h1)
      rw [if_pos h2, if_neg hqp] at he
      have := hlt q h1
      omega
    · have hqp : q ≠ p := fun e => hp (e ▸ h1)
      have hrp : r ≠ p := fun e => hp (e ▸ h2)
      rw [if_neg hqp, if_neg hrp] at he
      exact I.inj q h1 r h2 he

/-- An operation that looks at none of the blocks that are not told. -/
theorem HSt.op (hx : XOk x) {as : List A} {pend : List Nat} {blk : Nat → Nat} {Hd : Nat → Option Obj} (I : HSt x w0 N E as s a w pend blk Hd) {ops : Array Oper} {o : Oper} {b : A} (hc : ckA x.P N ops o b = true)
    (hlk : ∀ p ∈ pend, ∀ d, dstOf as p = some d → d ∉ b.looks ∧ b.dst ≠ some d) {Q : Ex → St → Prop} {K : St → Prop} {E0 : Env} (hE0 : Le E0 E) {K' : Act → World → Prop}
    (hK : ∀ E' s' a' w', Le E E' → HSt x w0 N E' as s' a' w' pend blk Hd → K s' → K' a' w') (h : vopD x b Q K s) :
    if Region.wanted o (yielded ops a.tmps) then o.wp x.P a w K' (Lift x w0 N E0 Q) else K' (a.put o.dst undef) w := by
  have hdst : o.dst = b.dst := by
    simp only [ckA, Bool.and_eq_true, beq_iff_eq] at hc
    exact hc.1.1.1
  have hm := I.mask
  have hv : vopD x b Q (fun s' => ∃ s1, K s1 ∧ s'.h = s1.h ∧ s'.d = s1.d ∧ ∀ n, (∀ p ∈ pend, dstOf as p ≠ some n) → s'.t n = s1.t n) ⟨maskT as pend s.t, s.h, s.d⟩ := by
    refine vop_congr (t := s.t) (fun n hn => ?_) (fun v h' d' hk => ⟨_, hk, rfl, rfl, fun n hn => ?_⟩) h
    · exact (maskT_off fun p hp hd => (hlk p hp n hd).1 hn).symm
    · simp only
      by_cases hbn : b.dst = some n
      · rw [hbn, put_self, put_self]
      · rw [put_ne hbn, put_ne hbn, maskT_off hn]
  have hE0' : Le (E0.with Hd) (E.with Hd) := ⟨hE0.n, hE0.mu, hE0.frz, hE0.old, rfl⟩
  have hext0 : ∀ b o, E0.hid b = some o → Hd b = some o := fun b o ho => I.ext b o (by rw [hE0.hid]; exact ho)
  have := vop_soundT (K' := K') hx hm hc hE0' (fun E' s' a' w' hE' H' hk htm => ?_) (vopD_vop hv)
  · split at this
    · rename_i hw
      rw [if_pos hw]
      exact wp_monoQ (fun e a w hq => Lift.less hq hext0) this
    · rename_i hw
      rw [if_neg hw]
      exact this
  · obtain ⟨s1, hk1, hh, hd, ht⟩ := hk
    have hhid : E'.hid = Hd := hE'.hid
    have hEE : (E'.with E.hid).with Hd = E' := by
      cases E'
      simp only at hhid
      subst hhid
      rfl
    refine hK (E'.with E.hid) s1 a' w' ⟨hE'.n, hE'.mu, hE'.frz, hE'.old, rfl⟩ ⟨by rw [hEE, ← hh]; exact H'.sr, fun g => (H'.gr g).rehid, fun n hn => ?_, fun p hp d hdp => ?_, H'.sz, ?_, I.ext, fun p hp => ?_, I.inj⟩ hk1
    · rw [← ht n hn]
      exact (H'.tm n).rehid
    · rw [htm d (by rw [hdst]; exact (hlk p hp d hdp).2)]
      exact I.pt p hp d hdp
    · rw [← hd]
      exact ⟨H'.df.1, fun j d u hd hu => let ⟨c, h1, h2⟩ := H'.df.2 j d u hd hu; ⟨c, h1, h2.1, fun j x v hx hv => (h2.2 j x v hx hv).rehid⟩⟩
    · obtain ⟨d', z', ty', o', g1, g2, g3, g4, g5⟩ := I.hd p hp
      refine ⟨d', z', ty', o', g1, g2, g3, fun j ho => g4 j ?_, g5⟩
      have : E'.old = E.old := hE'.old
      rw [← this]; exact ho

theorem set_getD {listed : Array Bool} {i k : Nat} {d : Bool} (hi : i < listed.size) : (listed.setIfInBounds i true).getD k d = if k = i then true else listed.getD k d := by
  by_cases hk : k = i
  · subst hk
    simp [Array.getD, hi]
  · rw [if_neg hk]
    by_cases hkl : k < listed.size
    · simp [Array.getD, hkl, Array.getElem_setIfInBounds, Ne.symm hk]
    · simp [Array.getD, hkl]

theorem HSt.fin {as : List A} {blk : Nat → Nat} {Hd : Nat → Option Obj} (I : HSt x w0 N E as s a w [] blk Hd) : SRel x w0 N E s a w := by
  have := I.mask
  have h2 := this.less (H := E.hid) fun b o ho => I.ext b o ho
  have e : maskT as [] s.t = s.t := funext fun n => maskT_off fun p hp => (by cases hp)
  rw [e] at h2
  exact h2

def pendOf (ops : Array Oper) (as : List A) (L : List Nat) (listed : Array Bool) : List Nat := L.filter fun p => listed.getD p false && !listed.getD (usr ops as L p) true

theorem vAnyL_sound (hx : XOk x) {ops : Array Oper} {as : List A} {L : List Nat} {Q : Ex → St → Prop} {E0 : Env} (hc : ∀ (i : Nat) o b, ops[i]? = some o → as[i]? = some b → ckA x.P N ops o b = true)
    (hlen : as.length = ops.size) (hL : lateOk ops as L = true)
    (hC : ∀ j, j < ops.size → ∀ k ∈ ancs ops j, k < ops.size ∧ ∃ o, ops[k]? = some o ∧ ∃ e ∈ o.after, Region.binds .any e = true ∧ (e.on = j ∨ e.on ∈ ancs ops j))
    (hfin : ∀ listed : Array Bool, listed.size = ops.size → Region.ready .any ops listed = [] → ∀ i, i < ops.size → listed.getD i true = true) :
    ∀ (f : Nat) (listed : Array Bool) (E : Env) (s : St) (a : Act) (w : World) (blk : Nat → Nat) (Hd : Nat → Option Obj), Le E0 E → listed.size = ops.size →
      (∀ j, j < ops.size → listed.getD j true = false → ∀ k ∈ ancs ops j, listed.getD k true = false) →
      HSt x w0 N E as s a w (pendOf ops as L listed) blk Hd →
      vAnyL x ops as L Q f listed s → wpAny x.P .any ops (Lift x w0 N E0 Q) f listed a w := by
  unfold lateOk at hL
  simp only [Bool.and_eq_true, decide_eq_true_eq, List.all_eq_true] at hL
  obtain ⟨hLn, hLa⟩ := hL
  have hLp : ∀ p ∈ L, p < ops.size ∧ (∃ d z ty, as[p]? = some ⟨some d, .new z ty, none⟩ ∧ ∀ j, j < as.length → j ≠ p → dstOf as j ≠ some d) ∧ usr ops as L p < ops.size ∧ usr ops as L p ∉ L ∧ usr ops as L p ∈ ancs ops p ∧ ∀ i, i < ops.size → (p ∈ nd as L i ↔ i = usr ops as L p) := by
    intro p hp
    obtain ⟨h1, h2⟩ := hLa p hp
    have h3 : ∃ d z ty, as[p]? = some ⟨some d, .new z ty, none⟩ ∧ ∀ j, j < as.length → j ≠ p → dstOf as j ≠ some d := by
      split at h1
      · rename_i d z ty has
        refine ⟨d, z, ty, has, fun j hj hjp => ?_⟩
        simp only [List.all_eq_true, List.mem_range, Bool.or_eq_true, beq_iff_eq, bne_iff_ne] at h1
        rcases h1 j hj with h | h
        · exact absurd h hjp
        · exact h
      · cases h1
    have hplt : p < ops.size := by
      obtain ⟨d, z, ty, has, _⟩ := h3
      rw [← hlen]
      exact (List.getElem?_eq_some_iff.1 has).1
    split at h2
    · rename_i u hu
      simp only [Bool.and_eq_true, beq_iff_eq, Bool.not_eq_true', List.contains_eq_mem, decide_eq_false_iff_not, decide_eq_true_eq] at h2
      obtain ⟨⟨h21, h22⟩, h23⟩ := h2
      have hmem : ∀ i, i < ops.size → (p ∈ nd as L i ↔ i = u) := fun i hi => by
        have : i ∈ ((List.range ops.size).filter fun i => (nd as L i).contains p) ↔ i = u := by rw [hu]; simp
        rw [List.mem_filter] at this
        simp only [List.mem_range, List.contains_iff_mem] at this
        exact ⟨fun h => this.1 ⟨hi, h⟩, fun h => (this.2 h).2⟩
      have hult : u < ops.size := (hC p hplt u h23).1
      rw [← h21]
      exact ⟨hplt, h3, hult, h22, h23, hmem⟩
    · cases h2
  have hmem : ∀ (listed : Array Bool) (p : Nat), p ∈ pendOf ops as L listed ↔ p ∈ L ∧ listed.getD p false = true ∧ listed.getD (usr ops as L p) true = false := fun listed p => by
    unfold pendOf
    rw [List.mem_filter]
    simp only [Bool.and_eq_true, Bool.not_eq_true']
  have hds : ∀ p ∈ L, ∀ q, q < ops.size → q ≠ p → dstOf as q ≠ dstOf as p := fun p hp q hq hqp => by
    obtain ⟨_, ⟨d, z, ty, has, hun⟩, _⟩ := hLp p hp
    have : dstOf as p = some d := by simp [dstOf, has]
    rw [this]
    exact hun q (by rw [hlen]; exact hq) hqp
  have hend : ∀ (listed : Array Bool) (E : Env) (s : St) (a : Act) (w : World) (blk : Nat → Nat) (Hd : Nat → Option Obj), Le E0 E → listed.size = ops.size → HSt x w0 N E as s a w (pendOf ops as L listed) blk Hd → Region.ready .any ops listed = [] → Q .normal s → Lift x w0 N E0 Q .normal a w := by
    intro listed E s a w blk Hd hE hsz I h0 hq
    have hnil : pendOf ops as L listed = [] := List.eq_nil_iff_forall_not_mem.2 fun p hp => by
      obtain ⟨h1, _, h3⟩ := (hmem listed p).1 hp
      have := hfin listed hsz h0 _ (hLp p h1).2.2.1
      rw [this] at h3; cases h3
    rw [hnil] at I
    exact Lift.of hE I.fin (y := .normal) trivial hq
  intro f
  induction f with
  | zero =>
    intro listed E s a w blk Hd hE hsz hdn I h
    exact ⟨h.1, hend listed E s a w blk Hd hE hsz I h.1 h.2⟩
  | succ f ih =>
    intro listed E s a w blk Hd hE hsz hdn I h
    refine ⟨fun h0 => hend listed E s a w blk Hd hE hsz I h0 (h.1 h0), fun i hi => ?_⟩
    have hv := h.2 i hi
    obtain ⟨hi1, o, ho, haft⟩ := mem_ready.1 hi
    have hilt : i < ops.size := (Array.getElem?_eq_some_iff.1 ho).1
    have hils : i < listed.size := by rw [hsz]; exact hilt
    have notready : ∀ j, j < ops.size → listed.getD j true = false → i ∉ ancs ops j := fun j hj hjl hh => by
      obtain ⟨_, o', ho', e, he, hb, hon⟩ := hC j hj i hh
      rw [ho] at ho'; cases ho'
      have h1 := haft e he hb
      have h4 : listed.getD e.on true = false := by
        rcases hon with h | h
        · rw [h]; exact hjl
        · exact hdn j hj hjl _ h
      by_cases hlt' : e.on < listed.size
      · simp [Array.getD, hlt'] at h1 h4
        rw [h1] at h4; cases h4
      · simp [Array.getD, hlt'] at h4
    have hsz' : (listed.setIfInBounds i true).size = ops.size := by simp [hsz]
    have hdn' : ∀ j, j < ops.size → (listed.setIfInBounds i true).getD j true = false → ∀ k ∈ ancs ops j, (listed.setIfInBounds i true).getD k true = false := fun j hj hjl k hk => by
      rw [set_getD hils] at hjl ⊢
      split at hjl
      · cases hjl
      · have hki : k ≠ i := fun e => notready j hj hjl (e ▸ hk)
        rw [if_neg hki]
        exact hdn j hj hjl k hk
    by_cases hiL : i ∈ L
    · rw [if_pos hiL] at hv
      obtain ⟨_, ⟨d, z, ty, has, hun⟩, hult, huL, huw, _⟩ := hLp i hiL
      have hca := hc i o _ ho has
      have hip : i ∉ pendOf ops as L listed := fun hp => by
        have := ((hmem listed i).1 hp).2.1
        simp [Array.getD, hils] at this hi1
        rw [this] at hi1; cases hi1
      have hw : Region.wanted o (yielded ops a.tmps) = true := by
        rw [wanted_spec I.mask hca]; rfl
      unfold wpOp
      simp only [ho, hw, if_true]
      refine .inl (HSt.made I hip has (fun q hq => ?_) ⟨ops, hca⟩ fun a' w' blk' Hd' I' => ih _ E s a' w' blk' Hd' hE hsz' hdn' (I'.perm fun p => ?_) hv)
      · have hqL := ((hmem listed q).1 hq).1
        exact hun q (by rw [hlen]; exact (hLp q hqL).1) fun e => hip (e ▸ hq)
      · rw [List.mem_cons, hmem, hmem, set_getD hils, set_getD hils]
        constructor
        · rintro ⟨h1, h2, h3⟩
          by_cases hpi : p = i
          · exact .inl hpi
          · have hui : usr ops as L p ≠ i := fun e => (hLp p h1).2.2.2.1 (e ▸ hiL)
            rw [if_neg hpi] at h2
            rw [if_neg hui] at h3
            exact .inr ⟨h1, h2, h3⟩
        · rintro (rfl | ⟨h1, h2, h3⟩)
          · have hui : usr ops as L p ≠ p := fun e => huL (by rw [e]; exact hiL)
            refine ⟨hiL, by rw [if_pos rfl], ?_⟩
            rw [if_neg hui]
            exact hdn p hilt hi1 _ huw
          · have hui : usr ops as L p ≠ i := fun e => (hLp p h1).2.2.2.1 (e ▸ hiL)
            refine ⟨h1, ?_, by rw [if_neg hui]; exact h3⟩
            split
            · rfl
            · exact h2
    · rw [if_neg hiL] at hv
      obtain ⟨b, hb, hv⟩ := hv
      have hndm : ∀ p, p ∈ nd as L i → p ∈ L ∧ usr ops as L p = i := fun p hp => by
        have hpL : p ∈ L := (List.mem_filter.1 hp).1
        exact ⟨hpL, (((hLp p hpL).2.2.2.2.2 i hilt).1 hp).symm⟩
      have hsub : ∀ p ∈ nd as L i, p ∈ pendOf ops as L listed := fun p hp => by
        obtain ⟨hpL, hu⟩ := hndm p hp
        refine (hmem listed p).2 ⟨hpL, ?_, by rw [hu]; exact hi1⟩
        have hplt := (hLp p hpL).1
        have hpls : p < listed.size := by rw [hsz]; exact hplt
        have : ¬ listed.getD p true = false := fun hf => notready p hplt hf (hu ▸ (hLp p hpL).2.2.2.2.1)
        simpa [Array.getD, hpls] using this
      obtain ⟨E1, Hd1, hE1, I1⟩ := HSt.tell (nd as L i) I hsub (hLn.filter _) fun q hq p hp hqp => hds p ((hmem listed p).1 hp).1 q (hLp q ((hmem listed q).1 hq).1).1 hqp
      have hop := HSt.op (K' := wpAny x.P .any ops (Lift x w0 N E0 Q) f (listed.setIfInBounds i true)) hx I1 (hc i o b ho hb) (fun p hp d hd => ?_) (hE.trans hE1) (fun E' s' a' w' hE' I' hk => ih _ E' s' a' w' blk Hd1 ((hE.trans hE1).trans hE') hsz' hdn' (I'.perm fun p => ?_) hk) hv
      · unfold wpOp
        simp only [ho]
        split
        · rename_i hw; rw [if_pos hw] at hop; exact .inl hop
        · rename_i hw; rw [if_neg hw] at hop; exact hop
      · obtain ⟨hp1, hp2⟩ := List.mem_filter.1 hp
        have hpL := ((hmem listed p).1 hp1).1
        constructor
        · intro hl
          have : p ∈ nd as L i := List.mem_filter.2 ⟨hpL, by rw [hb, hd]; simpa using hl⟩
          simp [this] at hp2
        · intro hbd
          have hip : i ≠ p := fun e => hiL (e ▸ hpL)
          exact hds p hpL i hilt hip (by rw [hd]; simp [dstOf, hb, hbd])
      · rw [List.mem_filter, hmem, hmem, set_getD hils, set_getD hils]
        constructor
        · rintro ⟨h1, h2, h3⟩
          have hpi : p ≠ i := fun e => hiL (e ▸ h1)
          rw [if_neg hpi] at h2
          split at h3
          · cases h3
          · rename_i hui
            refine ⟨⟨h1, h2, h3⟩, ?_⟩
            have : p ∉ nd as L i := fun hh => hui (hndm p hh).2
            simp [this]
        · rintro ⟨⟨h1, h2, h3⟩, h4⟩
          have hpi : p ≠ i := fun e => hiL (e ▸ h1)
          have h5 : p ∉ nd as L i := by simpa using h4
          have hui : usr ops as L p ≠ i := fun e => h5 (((hLp p h1).2.2.2.2.2 i hilt).2 e.symm)
          exact ⟨h1, by rw [if_neg hpi]; exact h2, by rw [if_neg hui]; exact h3⟩
end
end Go.Vs
namespace Go.Vs
open Go.RowKit

section
variable {x : X} {w0 w : World} {N : Nat} {E : Env} {s : St} {a : Act}

theorem lin_sound (hx : XOk x) {ops : Array Oper} {as : List A} {L : List Nat} {l : List (Nat × Option (List Nat))} {Q : Ex → St → Prop} {E0 : Env} (hc : ∀ (i : Nat) o b, ops[i]? = some o → as[i]? = some b → ckA x.P N ops o b = true)
    (hck : ckLin ops as L l = true) (hE : Le E0 E) (H : SRel x w0 N E s a w) (h : vLin x as L Q l s) : wpAny x.P .any ops (Lift x w0 N E0 Q) ops.size (Array.replicate ops.size false) a w := by
  unfold ckLin at hck
  simp only [Bool.and_eq_true, List.all_eq_true, decide_eq_true_eq, List.mem_range, Bool.or_eq_true, Bool.not_eq_true', List.contains_eq_mem, decide_eq_false_iff_not] at hck
  obtain ⟨⟨⟨⟨⟨⟨⟨⟨⟨⟨hnd, hlen⟩, hlate⟩, hLlt⟩, hos⟩, hself⟩, hall⟩, hord⟩, hC⟩, hlk⟩, hlin⟩ := hck
  have hC' : ∀ j, j < ops.size → ∀ k ∈ ancs ops j, k < ops.size ∧ ∃ o, ops[k]? = some o ∧ ∃ e ∈ o.after, Region.binds .any e = true ∧ (e.on = j ∨ e.on ∈ ancs ops j) := fun j hj k hk => by
    obtain ⟨h1, h2⟩ := hC j hj k hk
    refine ⟨h1, ?_⟩
    cases ho : ops[k]? with
    | none => rw [ho] at h2; simp at h2
    | some o =>
      rw [ho] at h2
      simp only [Option.map_some, Option.getD_some, List.any_eq_true, Bool.and_eq_true, Bool.or_eq_true, beq_iff_eq, decide_eq_true_eq] at h2
      obtain ⟨e, he, hb, hon⟩ := h2
      exact ⟨o, rfl, e, Array.mem_toList_iff.1 he, hb, hon⟩
  have hall' : ∀ i, i < ops.size ↔ i ∈ L ++ l.map (·.1) := fun i => by
    rw [List.mem_append]
    constructor
    · intro hi
      exact hall i hi
    · rintro (hi | hi)
      · exact hLlt i hi
      · exact (hos i hi).1
  have hfin : ∀ listed : Array Bool, listed.size = ops.size → Region.ready .any ops listed = [] → ∀ i, i < ops.size → listed.getD i true = true := by
    intro listed hsz h0
    have hU : (List.range ops.size).filter (fun k => !listed.getD k true) = [] := by
      by_cases hU : (List.range ops.size).filter (fun k => !listed.getD k true) = []
      · exact hU
      · obtain ⟨i, hi, o, ho, hh⟩ := ordOk_spec (L ++ l.map (·.1)) [] _ hord (fun i hi => (hall' i).1 (by simpa using (List.mem_filter.1 hi).1)) hU
        have : i ∈ Region.ready .any ops listed := mem_ready.2 ⟨by simpa using (List.mem_filter.1 hi).2, o, ho, fun e he hb => by
          rcases hh e he hb with h1 | h1 | ⟨h1, h2⟩
          · by_cases hlt : e.on < ops.size <;> simp [Array.getD, hlt] at h1
          · cases h1
          · have hlt := (hall' e.on).2 h1
            have h3 : ¬ listed.getD e.on true = false := fun h => h2 (List.mem_filter.2 ⟨by simpa using hlt, by simpa using h⟩)
            have hlt' : e.on < listed.size := by rw [hsz]; exact hlt
            simpa [Array.getD, hlt'] using h3⟩
        rw [h0] at this; cases this
    intro i hi
    by_cases hli : listed.getD i true = true
    · exact hli
    · have : i ∈ (List.range ops.size).filter (fun k => !listed.getD k true) := List.mem_filter.2 ⟨by simpa using hi, by simpa using hli⟩
      rw [hU] at this; cases this
  have hrep : ∀ j d, j < ops.size → (Array.replicate ops.size false).getD j d = false := fun j d hj => by simp [Array.getD, hj]
  have hpend : pendOf ops as L (Array.replicate ops.size false) = [] := List.eq_nil_iff_forall_not_mem.2 fun p hp => by
    have := (List.mem_filter.1 hp).2
    rw [hrep p false (hLlt p (List.mem_filter.1 hp).1)] at this
    simp at this
  have hL0 : ∀ i ∈ l.map (·.1), i ∉ L := fun i hi => (hos i hi).2
  obtain ⟨r', pv', s', P', g1, g2, g3, g4, g5, g6, g7, g8, g9, g10, g11, g12, g13, g14, g15, g16, g17⟩ := lin_go l [] s [] hlin h ⟨fun j hj => by cases hj⟩ (fun j hj => by cases hj) hnd (fun j hj => by cases hj)
  have hany : vAnyL x ops as L Q ops.size (Array.replicate ops.size false) s := by
    have hst : ∀ j, j ∈ (l.filter fun q => !q.2.isSome).map (·.1) → ∃ q ∈ l, q.2.isSome = false ∧ q.1 = j := fun j hj => by
      obtain ⟨q, hq, rfl⟩ := List.mem_map.1 hj
      exact ⟨q, (List.mem_filter.1 hq).1, by simpa using (List.mem_filter.1 hq).2, rfl⟩
    have hst2 : ∀ j, (j, none) ∈ l → j ∈ (l.filter fun q => !q.2.isSome).map (·.1) := fun j hj => List.mem_map.2 ⟨(j, none), List.mem_filter.2 ⟨hj, rfl⟩, rfl⟩
    refine lin_any (l0 := l.map (·.1)) (l1 := (l.filter fun q => !q.2.isSome).map (·.1)) hord hall' hC' (fun i hi j hj hij o d ho hd hdl => ?_) hL0 (fun i hi o d ho hd => ?_) ops.size _ s r' pv' s' P' (List.range ops.size) (by simp) List.nodup_range
      ⟨g1, g2, g3, g4, fun j hj => (g13 j hj).resolve_left (by simp), g5.symm, g6.symm, fun n hn => (g8 n hn).symm, g10, fun k hk => ?_, by simp, fun k => ?_, fun j hj k hk => ?_, fun k hk => ?_, g14, g15, fun j hj => (g16 j hj).elim (fun h => by cases h) (hst2 j), fun j hj => hst2 j (g17 _ hj)⟩
    · obtain ⟨q, hq, hq2, rfl⟩ := hst j hj
      have := hlk i hi q hq
      rw [ho, hd, hq2] at this
      simp only [beq_iff_eq, Bool.or_eq_true, Bool.not_eq_true', List.contains_eq_mem, decide_eq_false_iff_not, waits, decide_eq_true_eq] at this
      rcases this with (h | h) | h | h
      · cases h
      · exact absurd h hij
      · exact absurd hdl h
      · exact h
    · obtain ⟨q, hq, hq2, rfl⟩ := hst i hi
      have := hself q hq
      rw [ho, hq2] at this
      simp only [Option.map_some, Option.getD_some, hd] at this
      simpa using this
    · rw [g7 k, List.mem_range, hall' k, List.mem_append]
      simp only [List.not_mem_nil, false_or]
      exact ⟨fun h => .inr h, fun h => h.resolve_left hk⟩
    · rw [List.mem_range]
      exact ⟨fun h => ⟨h, hrep k true h⟩, fun h => h.1⟩
    · rw [List.mem_range] at hj ⊢
      exact (hC' j hj k hk).1
    · have := (g7 k).1 hk
      simpa using this
  refine vAnyL_sound hx hc hlen hlate hC' hfin ops.size _ E s a w (fun _ => 0) E.hid hE (by simp) (fun j hj _ k hk => hrep k true (hC' j hj k hk).1) ?_ hany
  rw [hpend]
  exact ⟨H.sr, H.gr, fun n _ => H.tm n, fun p hp => (by cases hp), H.sz, H.df, fun b o ho => ho, fun p hp => (by cases hp), fun p hp => (by cases hp)⟩

theorem vc_sound (hx : XOk x) : ∀ (c : Code) (d : C) (Q : Ex → St → Prop) (E0 E : Env) (s : St) (a : Act) (w : World), ckC x.P N c d = true → Le E0 E → SRel x w0 N E s a w → vc x d Q s → c.wp x.P (Lift x w0 N E0 Q) a w := by
  intro c
  induction c with
  | skip =>
    intro d Q E0 E s a w hc hE H h
    cases d <;> (try exact False.elim h) <;> simp [ckC] at hc
    exact wp_skip (Lift.of hE H (y := .normal) trivial h)
  | region id ops draw =>
    intro d Q E0 E s a w hc hE H h
    cases draw with
    | false =>
      cases d <;> (try exact False.elim h) <;> simp [ckC] at hc
      exact wp_region_list (vops_sound hx _ _ E s a w hE hc H h)
    | true =>
      cases d <;> (try exact False.elim h) <;> (try (simp [ckC] at hc; done))
      rename_i as d
      by_cases hlin : ∃ L l, d = .lin L l
      · obtain ⟨L, l, rfl⟩ := hlin
        simp only [ckC, Bool.and_eq_true] at hc
        obtain ⟨⟨h1, h2⟩, h3⟩ := hc
        refine wp_region_any h3 ?_
        exact lin_sound hx (fun i o b ho hb => ckAs_get h1 i o b (by simpa using ho) hb) h2 hE H.drew h
      have hc : ckAs x.P N ops ops.toList as = true ∧ ckD ops as ops.size (Array.replicate ops.size false) none d = true ∧ x.P.follows .mixedOrders = true := by
        cases d <;> first | exact (hlin ⟨_, _, rfl⟩).elim | (simp only [ckC, Bool.and_eq_true] at hc; exact ⟨hc.1.1, hc.1.2, hc.2⟩)
      obtain ⟨h1, h2, h3⟩ := hc
      refine wp_region_any h3 ?_
      exact vAny_sound hx (fun i o b ho hb => ckAs_get h1 i o b (by simpa using ho) hb) _ _ E s a _ hE H.drew ((vD_any _ _ _ s).1 h2 h)
  | seq p q ihp ihq =>
    intro d Q E0 E s a w hc hE H h
    cases d <;> (try exact False.elim h) <;> simp only [ckC, Bool.and_eq_true] at hc <;> try (cases hc; done)
    refine wp_seq (wp_mono (ihp _ _ E0 E s a w hc.1 hE H h) fun e a' w' ⟨E', s', y, hE', H', hy, hq⟩ => ?_)
    cases y with
    | normal => cases e <;> first | exact hy.elim | exact ihq _ Q E0 E' s' a' w' hc.2 hE' H' hq
    | _ => cases e <;> first | exact hy.elim | exact ⟨E', s', _, hE', H', hy, hq⟩
  | cond o p q ihp ihq =>
    intro d Q E0 E s a w hc hE H h
    cases d <;> (try exact False.elim h) <;> simp only [ckC, Bool.and_eq_true] at hc <;> try (cases hc; done)
    obtain ⟨⟨h1, h2⟩, h3⟩ := hc
    have hv := ckO_spec (x := x) H.gr H.tm h1
    simp only [vc] at h
    generalize hu : a.eval o = u at hv
    split at h
    · rename_i hb
      rw [hb] at hv
      cases hv
      exact wp_cond_true hu (ihp _ _ E0 E s a w h2 hE H h)
    · rename_i hb
      rw [hb] at hv
      cases hv
      exact wp_cond_false hu (ihq _ _ E0 E s a w h3 hE H h)
    · exact h.elim
  | block id p ih =>
    intro d Q E0 E s a w hc hE H h
    cases d <;> (try exact False.elim h) <;> simp only [ckC, Bool.and_eq_true, beq_iff_eq] at hc <;> try (cases hc; done)
    obtain ⟨rfl, hc⟩ := hc
    refine wp_block (wp_mono (ih _ _ E0 E s a w hc hE H h) fun e a' w' ⟨E', s', y, hE', H', hy, hq⟩ => ?_)
    cases y with
    | exit i =>
      cases e with
      | exit j =>
        have hij : i = j := hy
        subst hij
        simp only [Exit.inBlock]
        simp only at hq
        split at hq
        · rename_i hi; rw [if_pos hi]; exact ⟨E', s', .normal, hE', H', trivial, hq⟩
        · rename_i hi; rw [if_neg hi]; exact ⟨E', s', .exit i, hE', H', rfl, hq⟩
      | _ => exact hy.elim
    | _ => cases e <;> first | exact hy.elim | exact ⟨E', s', _, hE', H', hy, hq⟩
  | loop p ih =>
    intro d Q E0 E s a w hc hE H h
    cases d <;> (try exact False.elim h) <;> simp only [ckC] at hc <;> try (cases hc; done)
    obtain ⟨I, ⟨n, hn⟩, hround⟩ := h
    refine wp_loop_num (fun n a w => ∃ E' s', Le E0 E' ∧ SRel x w0 N E' s' a w ∧ I n s') ⟨E, s, hE, H, hn⟩ fun n a w ⟨E1, s1, hE1, H1, hI⟩ => ?_
    refine wp_mono (ih _ _ E0 E1 s1 a w hc hE1 H1 (hround n s1 hI)) fun e a' w' ⟨E', s', y, hE', H', hy, hq⟩ => ?_
    cases y with
    | normal =>
      cases e <;> try (exact hy.elim)
      obtain ⟨m, hm, hI'⟩ := hq
      exact ⟨m, hm, E', s', hE', H', hI'⟩
    | _ => cases e <;> first | exact hy.elim | exact ⟨E', s', _, hE', H', hy, hq⟩
  | exit i =>
    intro d Q E0 E s a w hc hE H h
    cases d <;> (try exact False.elim h) <;> simp [ckC] at hc
    subst hc
    exact wp_exit (Lift.of hE H (y := .exit i) rfl h)
  | ret =>
    intro d Q E0 E s a w hc hE H h
    cases d <;> (try exact False.elim h) <;> simp [ckC] at hc
    exact wp_ret (Lift.of hE H (y := .ret) trivial h)
  | _ =>
    intro d Q E0 E s a w hc hE H h
    cases d <;> (try exact False.elim h) <;> simp [ckC] at hc
end
end Go.Vs
namespace Go.Vs
open Go.RowKit

inductive RV where
  | t (n : Nat)
  | c (n k : Nat) (ag : Bool)
  deriving Inhabited

structure Fun where
  n : Nat
  np : Nat
  rs : List RV
  c : C
  deriving Inhabited

def RV.get (t : Nat → V) (h : Hp) : RV → Option V
  | .t n => some (t n)
  | .c n k ag => (rd h (t n) k).bind (asV ag)

def getAll (t : Nat → V) (h : Hp) : List RV → Option (List V)
  | [] => some []
  | r :: rs => match r.get t h, getAll t h rs with
    | some v, some vs => some (v :: vs)
    | _, _ => none

def resV (rs : List RV) (t : Nat → V) (h : Hp) : Option V := match getAll t h rs with
  | some [v] => some v
  | some vs => some (.tup vs)
  | none => none

def ckRs (P : Program) : List ResultVar → List RV → Bool
  | [], [] => true
  | .tmp a :: r, .t b :: s => a == b && ckRs P r s
  | .cell a t :: r, .c b k ag :: s => a == b && tSize P t == some k && tAg P t == some ag && ckRs P r s
  | _, _ => false

def ckF (P : Program) (f : FuncId) (F : Fun) : Bool := match P.funcs[f]? with
  | some fn => fn.ntmps == F.n && decide (F.np ≤ F.n) && (match fn.body with | some c => ckC P F.n c F.c | none => false) && ckRs P fn.results.toList F.rs && fn.name != "runtime.NumGoroutine"
  | none => false

section
variable {x : X} {w0 w : World} {E : Env} {h : Hp}

def oneRes (tmps : Array Value) : ResultVar → Sem Value
  | .tmp t => pure (tmps.getD t undef)
  | .cell a t => do loadVar t (← asAddr (tmps.getD a undef))

theorem getAll_spec (H : SR w0 E h w) {t : Nat → V} {tmps : Array Value} (ht : ∀ n, VR E (t n) (tmps.getD n undef)) : ∀ {l : List ResultVar} {rs : List RV} {vs : List V}, ckRs x.P l rs = true → getAll t h rs = some vs →
    ∃ us : List Value, us.length = vs.length ∧ (l.mapM (oneRes tmps)).run x.P w = .ok us w ∧ ∀ (j : Nat) y v, vs[j]? = some y → us[j]? = some v → VR E y v
  | [], [], vs, _, hg => by
    simp only [getAll, Option.some.injEq] at hg
    subst hg
    exact ⟨[], rfl, rfl, fun j y v hy => by simp at hy⟩
  | .tmp a :: r, .t b :: s, vs, hc, hg => by
    simp only [ckRs, Bool.and_eq_true, beq_iff_eq] at hc
    obtain ⟨rfl, hc⟩ := hc
    simp only [getAll, RV.get] at hg
    split at hg
    · rename_i v vs' hv hvs
      cases hg; cases hv
      obtain ⟨us, h1, h2, h3⟩ := getAll_spec H ht hc hvs
      refine ⟨tmps.getD a undef :: us, by simp [h1], ?_, fun j y v hy hv => ?_⟩
      · simp only [List.mapM_cons, oneRes, Sem.run_bind, Sem.run_pure, Result.andThen_ok, h2]
      · cases j with
        | zero => simp only [List.getElem?_cons_zero, Option.some.injEq] at hy hv; subst hy; subst hv; exact ht a
        | succ j => exact h3 j y v (by simpa using hy) (by simpa using hv)
    · cases hg
  | .cell a tt :: r, .c b k ag :: s, vs, hc, hg => by
    simp only [ckRs, Bool.and_eq_true, beq_iff_eq] at hc
    obtain ⟨⟨⟨rfl, hk⟩, hag⟩, hc⟩ := hc
    simp only [getAll, RV.get] at hg
    split at hg
    · rename_i v vs' hv hvs
      cases hg
      simp only [Option.bind_eq_some_iff] at hv
      obtain ⟨l, hl, hv⟩ := hv
      obtain ⟨us, h1, h2, h3⟩ := getAll_spec H ht hc hvs
      obtain ⟨b, p, ws, hp, hrow, hln⟩ := rd_row H (ht a) hl
      have hload : ∃ u, (loadVar tt ⟨b, p, none⟩).run x.P w = .ok u w ∧ VR E v u := by
        have hd := does_load (x := x) (a := t a) (u := .pointer (some ⟨b, p, none⟩)) H hk hag (by rw [← hp]; exact ht a) hl hv
        obtain ⟨u, E', w', _, hr, hvr, _⟩ := hd
        rcases asV_spec hv with ⟨rfl, rfl⟩ | ⟨rfl, rfl⟩
        · have hll := hrow.loads (P := x.P)
          rw [hln] at hll
          exact ⟨_, by simp [loadVar, run_isAgg hag, run_size hk, hll], hrow.agg⟩
        · have h1 : 0 < ws.length := by rw [hrow.1]; simp
          have h0 := hrow.2 0 ws[0] (List.getElem?_eq_getElem h1)
          have hc := h0.1
          simp only [Nat.add_zero] at hc
          exact ⟨_, by simp [loadVar, run_isAgg hag, hc], h0.2.2 v rfl⟩
      obtain ⟨u, hr, hvr⟩ := hload
      refine ⟨u :: us, by simp [h1], ?_, fun j y v' hy hv' => ?_⟩
      · have ha : (asAddr (.pointer (some ⟨b, p, none⟩))).run x.P w = .ok ⟨b, p, none⟩ w := rfl
        simp only [List.mapM_cons, oneRes, Sem.run_bind, hp, ha, Sem.run_pure, Result.andThen_ok, hr, h2]
      · cases j with
        | zero => simp only [List.getElem?_cons_zero, Option.some.injEq] at hy hv'; subst hy; subst hv'; exact hvr
        | succ j => exact h3 j y v' (by simpa using hy) (by simpa using hv')
    · cases hg
  | [], _ :: _, _, hc, _ => by simp [ckRs] at hc
  | .tmp _ :: _, [], _, hc, _ => by simp [ckRs] at hc
  | .cell _ _ :: _, [], _, hc, _ => by simp [ckRs] at hc
  | .tmp _ :: _, .c _ _ _ :: _, _, hc, _ => by simp [ckRs] at hc
  | .cell _ _ :: _, .t _ :: _, _, hc, _ => by simp [ckRs] at hc

theorem results_spec (H : SR w0 E h w) {t : Nat → V} {tmps : Array Value} (ht : ∀ n, VR E (t n) (tmps.getD n undef)) {fn : Func} {rs : List RV} {v : V} (hc : ckRs x.P fn.results.toList rs = true) (hg : resV rs t h = some v) :
    ∃ u, (results fn tmps).run x.P w = .ok u w ∧ VR E v u := by
  unfold resV at hg
  cases hga : getAll t h rs with
  | none => rw [hga] at hg; cases hg
  | some vs =>
    obtain ⟨us, h1, h2, h3⟩ := getAll_spec (x := x) H ht hc hga
    rw [hga] at hg
    have hrun : (results fn tmps).run x.P w = .ok (if hh : us.toArray.size = 1 then us.toArray[0] else .tuple us.toArray) w := by
      have he : results fn tmps = (do let vs ← fn.results.mapM (oneRes tmps); pure (if h : vs.size = 1 then vs[0] else .tuple vs)) := rfl
      rw [he, Array.mapM_eq_mapM_toList]
      simp only [Sem.run_bind, Sem.run_map, h2, Result.andThen_ok]
      rfl
    rw [hrun]
    match vs, us, h1, h3, hg with
    | [y], [u], _, h3, hg =>
      simp only [Option.some.injEq] at hg
      subst hg
      exact ⟨u, by simp, h3 0 y u rfl rfl⟩
    | [], [], _, h3, hg =>
      simp only [Option.some.injEq] at hg
      subst hg
      exact ⟨.tuple #[], by simp, .tup _ _ rfl (fun j x v hx => by simp at hx)⟩
    | y :: z :: r, u :: u' :: r', h1, h3, hg =>
      simp only [Option.some.injEq] at hg
      subst hg
      exact ⟨.tuple (u :: u' :: r').toArray, by simp, .tup _ _ (by simpa using h1) (fun j x v hx hv => h3 j x v hx (by simpa using hv))⟩

def start (args : List V) : Nat → V := fun n => args.getD n udf

theorem SRel.start {N : Nat} (H : SR w0 E h w) (hg : GR x E) {args : List V} {vs : Array Value} (hv : VRs E args vs) (hn : args.length ≤ N) :
    SRel x w0 N E { t := Vs.start args, h, d := [] } { tmps := vs ++ Array.replicate (N - vs.size) undef, defers := [] } w := by
  refine ⟨H, hg, fun n => ?_, ?_, rfl, fun j d u hd => by simp at hd⟩
  · simp only [Vs.start, Array.getD_eq_getD_getElem?, List.getD]
    rcases Nat.lt_or_ge n vs.size with h1 | h1
    · rw [Array.getElem?_append_left h1, Array.getElem?_eq_getElem h1]
      have h2 : n < args.length := by rw [← hv.1]; exact h1
      rw [List.getElem?_eq_getElem h2]
      exact hv.2 n _ _ (List.getElem?_eq_getElem h2) (Array.getElem?_eq_getElem h1)
    · rw [Array.getElem?_append_right h1, List.getElem?_eq_none (by rw [← hv.1]; exact h1), Array.getElem?_replicate]
      split <;> exact udf_vr E
  · simp [hv.1]; omega

/-- What is left behind the body of a function that defers nothing. -/
def post (F : Fun) (R : Res → Hp → Prop) : Ex → St → Prop
  | .normal, s => s.d = [] ∧ ∃ v, resV F.rs s.t s.h = some v ∧ R (.ret v) s.h
  | .ret, s => s.d = [] ∧ ∃ v, resV F.rs s.t s.h = some v ∧ R (.ret v) s.h
  | .pan v, s => s.d = [] ∧ R (.pan v) s.h
  | .exit _, _ => False

theorem ckF_spec {P : Program} {f : FuncId} {F : Fun} (hc : ckF P f F = true) : ∃ fn c, P.funcs[f]? = some fn ∧ fn.body = some c ∧ fn.ntmps = F.n ∧ F.np ≤ F.n ∧ ckC P F.n c F.c = true ∧ ckRs P fn.results.toList F.rs = true ∧ callable P f = true := by
  unfold ckF at hc
  split at hc
  · rename_i fn hf
    simp only [Bool.and_eq_true, beq_iff_eq, decide_eq_true_eq, bne_iff_ne, ne_eq] at hc
    obtain ⟨⟨⟨⟨h1, h2⟩, h3⟩, h4⟩, h5⟩ := hc
    split at h3
    · rename_i c hb
      exact ⟨fn, c, hf, hb, h1, h2, h3, h4, by simp [callable, hf, hb, h5]⟩
    · cases h3
  · cases hc

theorem acalls_of (hx : XOk x) {f : FuncId} {F : Fun} (hc : ckF x.P f F = true) {args : List V} (hn : args.length = F.np) {R : Res → Hp → Prop} (hv : vc x F.c (post F R) { t := start args, h, d := [] }) : ACalls x f args h R := by
  obtain ⟨fn, c, hf, hb, h1, h2, h3, h4, h5⟩ := ckF_spec hc
  refine ⟨h5, fun w0 E w vs hs hg hvs => calls_of_wp hf hb ?_⟩
  have hst := SRel.start (N := F.n) hs hg hvs (by omega)
  rw [h1]
  refine wp_mono (vc_sound hx c F.c (post F R) E E _ _ w h3 (Le.refl E) hst hv) fun e a w' ⟨E', s', y, hE, H, hy, hq⟩ => ?_
  have hdf : s'.d = [] → a.defers = [] := fun hd => by
    have := H.df.1
    rw [hd] at this
    exact List.eq_nil_of_length_eq_zero (by simpa using this)
  cases y with
  | normal =>
    cases e <;> try (exact hy.elim)
    obtain ⟨hd, v, hr, hR⟩ := hq
    obtain ⟨u, hu, hvr⟩ := results_spec (x := x) H.sr H.tm h4 hr
    exact ⟨hdf hd, u, hu, E', s'.h, .ret v, hE, H.sr, hvr, hR⟩
  | ret =>
    cases e <;> try (exact hy.elim)
    obtain ⟨hd, v, hr, hR⟩ := hq
    obtain ⟨u, hu, hvr⟩ := results_spec (x := x) H.sr H.tm h4 hr
    exact ⟨hdf hd, u, hu, E', s'.h, .ret v, hE, H.sr, hvr, hR⟩
  | pan v =>
    cases e <;> try (exact hy.elim)
    obtain ⟨hd, hR⟩ := hq
    exact ⟨hdf hd, E', s'.h, .pan v, hE, H.sr, hy, hR⟩
  | exit i => cases e <;> first | exact hy.elim | exact hq.elim

/-! ### deferred calls -/

/-- Recovered: what its caller panicked with is no more. -/
def ACallsD (x : X) (f : FuncId) (args : List V) (h : Hp) (p : Option V) (R : Bool → Hp → Prop) : Prop :=
  callable x.P f = true ∧ ∀ (w0 : World) (E : Env) (w : World) (vs : Array Value) (pv : Option Value), SR w0 E h w → GR x E → VRs E args vs → (∀ v, p = some v → ∃ u, pv = some u ∧ VR E v u) → (p = none → pv = none) →
    CallsD x.P f vs (mode pv) w fun e u w' => ∃ E' h' rc, Le E E' ∧ SR w0 E' h' w' ∧ (∃ r, e = .returned r) ∧ ((rc = false ∧ u = mode pv) ∨ (rc = true ∧ ∃ v, pv = some v ∧ u = .panicking [{ v, recovered := true }])) ∧ R rc h'

def leave (x : X) (F : Fun) (t : Nat → V) (R : Res → Hp → Prop) : List (FuncId × List V) → Option V → Hp → Prop
  | [], none, h => ∃ v, resV F.rs t h = some v ∧ R (.ret v) h
  | [], some v, h => R (.pan v) h
  | (f, args) :: ds, p, h => ACallsD x f args h p fun rc h' => leave x F t R ds (if rc then none else p) h'

def postD (x : X) (F : Fun) (R : Res → Hp → Prop) : Ex → St → Prop
  | .normal, s => leave x F s.t R s.d none s.h
  | .ret, s => leave x F s.t R s.d none s.h
  | .pan v, s => leave x F s.t R s.d (some v) s.h
  | .exit _, _ => False

theorem leave_spec {E0 : Env} {F : Fun} {fn : Func} (h4 : ckRs x.P fn.results.toList F.rs = true) {t : Nat → V} {tmps : Array Value} {R : Res → Hp → Prop} : ∀ (ds : List (FuncId × List V)) (us : List Deferred) (p : Option V) (pv : Option Value) (E : Env) (h : Hp) (w : World), Le E0 E → SR w0 E h w → GR x E → (∀ n, VR E (t n) (tmps.getD n undef)) → DR E ds us →
    (∀ v, p = some v → ∃ u, pv = some u ∧ VR E v u) → (p = none → pv = none) → leave x F t R ds p h →
    Leaves x.P fn tmps (fun e w' => ∃ E' h' r, Le E0 E' ∧ SR w0 E' h' w' ∧ RR E' r e ∧ R r h') us (mode pv) w
  | [], us, p, pv, E, h, w, hE, H, hg, ht, hd, hp, hp', hl => by
    have hus : us = [] := List.eq_nil_of_length_eq_zero (by have := hd.1; simpa using this)
    subst hus
    cases p with
    | none =>
      rw [hp' rfl]
      obtain ⟨v, hr, hR⟩ := hl
      obtain ⟨u, hu, hvr⟩ := results_spec (x := x) H ht h4 hr
      exact ⟨u, hu, E, h, .ret v, hE, H, hvr, hR⟩
    | some v =>
      obtain ⟨u, rfl, hvr⟩ := hp v rfl
      exact ⟨E, h, .pan v, hE, H, ⟨u, hvr, rfl⟩, hl⟩
  | (f, args) :: ds, us, p, pv, E, h, w, hE, H, hg, ht, hd, hp, hp', hl => by
    match us, hd with
    | [], hd => have := hd.1; simp at this
    | d :: us, hd =>
      obtain ⟨cap, htar, hvs⟩ := hd.2 0 (f, args) d rfl rfl
      have hcall := hl.2 w0 E w (d.args ++ cap) pv H hg hvs hp hp'
      refine ⟨by cases pv <;> simp [mode], .func f, cap, f, d.args ++ cap, htar, ?_, hcall.mono fun e u w' ⟨E', h', rc, hE', H', ⟨r, hr⟩, hrc, hl'⟩ => ?_⟩
      · rw [htar]; exact callFunc_run hl.1
      · subst hr
        simp only
        have hd' : DR E' ds us := by
          have hd2 : DR E ds us := ⟨by have := hd.1; simpa using this, fun j d' u' h1 h2 => hd.2 (j + 1) d' u' (by simpa using h1) (by simpa using h2)⟩
          exact hd2.mono hE'
        rcases hrc with ⟨rfl, rfl⟩ | ⟨rfl, v, rfl, rfl⟩
        · have hset : settle (mode pv) = mode pv := by cases pv <;> rfl
          rw [hset]
          exact leave_spec h4 ds us p pv E' h' w' (hE.trans hE') H' (hg.mono hE') (fun n => (ht n).mono hE') hd' (fun v hv => let ⟨u, h1, h2⟩ := hp v hv; ⟨u, h1, h2.mono hE'⟩) hp' hl'
        · have hset : settle (.panicking [{ v, recovered := true }]) = mode none := rfl
          rw [hset]
          exact leave_spec h4 ds us none none E' h' w' (hE.trans hE') H' (hg.mono hE') (fun n => (ht n).mono hE') hd' (fun v hv => by cases hv) (fun _ => rfl) hl'

theorem acalls_of_defers (hx : XOk x) {f : FuncId} {F : Fun} (hc : ckF x.P f F = true) {args : List V} (hn : args.length = F.np) {R : Res → Hp → Prop} (hv : vc x F.c (postD x F R) { t := start args, h, d := [] }) : ACalls x f args h R := by
  obtain ⟨fn, c, hf, hb, h1, h2, h3, h4, h5⟩ := ckF_spec hc
  refine ⟨h5, fun w0 E w vs hs hg hvs => calls_of_wp_defers hf hb ?_⟩
  have hst := SRel.start (N := F.n) hs hg hvs (by omega)
  rw [h1]
  refine wp_mono (vc_sound hx c F.c (postD x F R) E E _ _ w h3 (Le.refl E) hst hv) fun e a w' ⟨E', s', y, hE, H, hy, hq⟩ => ?_
  cases y with
  | normal =>
    cases e <;> try (exact hy.elim)
    exact leave_spec h4 s'.d a.defers none none E' s'.h w' hE H.sr H.gr H.tm H.df (fun v hv => by cases hv) (fun _ => rfl) hq
  | ret =>
    cases e <;> try (exact hy.elim)
    exact leave_spec h4 s'.d a.defers none none E' s'.h w' hE H.sr H.gr H.tm H.df (fun v hv => by cases hv) (fun _ => rfl) hq
  | pan v =>
    cases e <;> try (exact hy.elim)
    obtain ⟨u, hvr, rfl⟩ := hy
    exact leave_spec h4 s'.d a.defers (some v) (some u) E' s'.h w' hE H.sr H.gr H.tm H.df (fun v' hv' => by cases hv'; exact ⟨u, rfl, hvr⟩) (fun h => by cases h) hq
  | exit i => cases e <;> first | exact hy.elim | exact hq.elim
end
end Go.Vs
