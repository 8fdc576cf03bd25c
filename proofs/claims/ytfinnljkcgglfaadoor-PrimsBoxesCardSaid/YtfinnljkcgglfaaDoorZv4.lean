/- Deferred functions that recover. -/
import Derived.Test.YtfinnljkcgglfaaDoorZv3
import Derived.ProofKit
import Derived.Deep.Slices
import Derived.Carry
import Derived.LaidMore
import Derived.MakeChecks
import Derived.FnData
import Derived.OpenShut
import Derived.HandedShaped
set_option linter.unusedSimpArgs false
set_option linter.unusedVariables false
namespace Go.Vs
open Go.RowKit
set_option linter.unusedSimpArgs false
set_option linter.unusedVariables false

inductive MS where
  | none
  | pend (v : V)
  | recd (v : V)

def vopS (x : X) (o : A) (Q : Ex → St → MS → Prop) (K : St → MS → Prop) (s : St) (m : MS) : Prop :=
  match o.i with
  | .recov => if wanted s.t o.g = true then (match m with
    | .pend v => K { s with t := put s.t o.dst v } (.recd v)
    | m => K { s with t := put s.t o.dst .nifc } m) else K { s with t := put s.t o.dst udf } m
  | _ => vop x o (fun e s => Q e s m) (fun s => K s m) s

def vopsS (x : X) (Q : Ex → St → MS → Prop) : List A → St → MS → Prop
  | [], s, m => Q .normal s m
  | o :: r, s, m => vopS x o Q (vopsS x Q r) s m

def vcS (x : X) : C → (Ex → St → MS → Prop) → St → MS → Prop
  | .reg ops, Q, s, m => vopsS x Q ops s m
  | .seq a b, Q, s, m => vcS x a (fun e s m => match e with | .normal => vcS x b Q s m | e => Q e s m) s m
  | .cond c a b, Q, s, m => match c.ev x s.t with
    | .bool true => vcS x a Q s m
    | .bool false => vcS x b Q s m
    | _ => False
  | c, Q, s, m => vc x c (fun e s => Q e s m) s

def isRecov (o : Op) (i : I) : Bool := match o, i with
  | .call c, .recov => (match c.callee with | .builtin .recover => true | _ => false)
  | _, _ => false

def ckAS (P : Program) (N : Nat) (ops : Array Oper) (o : Oper) (b : A) : Bool :=
  if isRecov o.op b.i then o.dst == b.dst && (match b.dst with | some d => decide (d < N) | none => true) &&
  (match o.guard, b.g with
   | none, none => true
   | some (j, w), some (d, w') => w == w' && decide (d < N) && ((ops[j]?).bind (·.dst)) == some d
   | _, _ => false) else ckA P N ops o b

def ckAsS (P : Program) (N : Nat) (ops : Array Oper) : List Oper → List A → Bool
  | [], [] => true
  | o :: r, b :: s => ckAS P N ops o b && ckAsS P N ops r s
  | _, _ => false

def ckCS (P : Program) (N : Nat) : Code → C → Bool
  | .region _ ops false, .reg as => ckAsS P N ops ops.toList as
  | .seq a b, .seq c d => ckCS P N a c && ckCS P N b d
  | .cond p a b, .cond o c d => ckO p o && ckCS P N a c && ckCS P N b d
  | c, d => ckC P N c d

def ckFS (P : Program) (f : FuncId) (F : Fun) : Bool := match P.funcs[f]? with
  | some fn => fn.ntmps == F.n && decide (F.np ≤ F.n) && (match fn.body with | some c => ckCS P F.n c F.c | none => false) && ckRs P fn.results.toList F.rs && fn.name != "runtime.NumGoroutine"
  | none => false

def msMode (m : MS) (pv : Option Value) (fm : FrameMode) (E : Env) : Prop := match m with
  | .none => pv = none ∧ fm = .returning
  | .pend v => ∃ u, pv = some u ∧ VR E v u ∧ fm = .panicking [entry u]
  | .recd _ => ∃ u, pv = some u ∧ fm = .panicking [{ v := u, recovered := true }]

theorem msMode.mono {m : MS} {pv : Option Value} {fm : FrameMode} {E E' : Env} (hE : Le E E') (h : msMode m pv fm E) : msMode m pv fm E' := by
  cases m with
  | none => exact h
  | pend v => obtain ⟨u, h1, h2, h3⟩ := h; exact ⟨u, h1, h2.mono hE, h3⟩
  | recd v => exact h

def LiftS (x : X) (w0 : World) (N : Nat) (E : Env) (c0 : Frame) (cs : List Frame) (pv : Option Value) (Q : Ex → St → MS → Prop) : Exit → Act → List Frame → World → Prop :=
  fun e a cs' w => ∃ E' s y m fm, Le E E' ∧ SRel x w0 N E' s a w ∧ ExR E' y e ∧ msMode m pv fm E ∧ cs' = { c0 with mode := fm } :: cs ∧ Q y s m

section
variable {x : X} {w0 w : World} {N : Nat} {E : Env} {s : St} {a : Act} {c0 : Frame} {cs : List Frame} {pv : Option Value}

theorem wanted_specS (H : SRel x w0 N E s a w) {ops : Array Oper} {o : Oper} {b : A} (hg : (match o.guard, b.g with
   | none, none => true
   | some (j, w), some (d, w') => w == w' && decide (d < N) && ((ops[j]?).bind (·.dst)) == some d
   | _, _ => false) = true) : Region.wanted o (yielded ops a.tmps) = Vs.wanted s.t b.g := by
  unfold Region.wanted Vs.wanted
  cases h1 : o.guard with
  | none =>
    rw [h1] at hg
    cases h2 : b.g with
    | none => rfl
    | some g => rw [h2] at hg; simp at hg
  | some jw =>
    obtain ⟨j, wt⟩ := jw
    rw [h1] at hg
    cases h2 : b.g with
    | none => rw [h2] at hg; simp at hg
    | some g =>
      obtain ⟨d, wt'⟩ := g
      rw [h2] at hg
      simp only [Bool.and_eq_true, beq_iff_eq, decide_eq_true_eq] at hg
      obtain ⟨⟨rfl, hd⟩, hj⟩ := hg
      simp only [yielded, hj, Option.bind_some]
      have hv := H.tm d
      have hlt : d < a.tmps.size := by rw [H.sz]; exact hd
      have hget : a.tmps[d]? = some (a.tmps.getD d undef) := by
        simp only [Array.getD_eq_getD_getElem?, Array.getElem?_eq_getElem hlt, Option.getD_some]
      rw [hget]
      generalize a.tmps.getD d undef = u at hv
      generalize s.t d = y at hv
      cases hv <;> simp

theorem recoverD_pend {c0 : Frame} {cs : List Frame} {u : Value} : recoverD ({ c0 with mode := .panicking [entry u] } :: cs) = some (u, { c0 with mode := .panicking [{ v := u, recovered := true }] } :: cs) := rfl
theorem recoverD_none {c0 : Frame} {cs : List Frame} : recoverD ({ c0 with mode := .returning } :: cs) = none := rfl
theorem recoverD_recd {c0 : Frame} {cs : List Frame} {u : Value} : recoverD ({ c0 with mode := .panicking [{ v := u, recovered := true }] } :: cs) = none := rfl

theorem upon_mono {P : Program} {o : Oper} {a : Act} {next : Act → World → Prop} {Q Q' : Exit → Act → World → Prop} {r : Result Next} (h : o.upon P a next Q r) (hq : ∀ e a' w', Q e a' w' → Q' e a' w') : o.upon P a next Q' r := by
  unfold Oper.upon at h ⊢
  split at h
  · exact h
  · exact h
  · exact h
  · refine h.mono fun e w' he => ?_
    cases e with
    | returned v => exact he
    | panicked l => exact hq _ _ _ he
    | outgrown => obtain ⟨a₀, w₀, hh⟩ := he; exact ⟨a₀, w₀, hq _ _ _ hh⟩
  · exact h
  · exact hq _ _ _ h
  · exact h.elim

theorem vopsS_sound (hx : XOk x) {ops : Array Oper} {Q : Ex → St → MS → Prop} {E0 : Env} : ∀ (l : List Oper) (bs : List A) (k : Nat) (E : Env) (s : St) (m : MS) (fm : FrameMode) (a : Act) (w : World), (∀ j, l[j]? = ops[k + j]?) → Le E0 E → ckAsS x.P N ops l bs = true → SRel x w0 N E s a w → msMode m pv fm E0 →
    vopsS x Q bs s m → wpOpsS x.P ops (LiftS x w0 N E0 c0 cs pv Q) (List.range' k l.length) a ({ c0 with mode := fm } :: cs) w
  | [], [], k, E, s, m, fm, a, w, _, hE, _, H, hm, h => ⟨E, s, .normal, m, fm, hE, H, trivial, hm, rfl, h⟩
  | o :: l, b :: bs, k, E, s, m, fm, a, w, hl, hE, hc, H, hm, h => by
    simp only [ckAsS, Bool.and_eq_true] at hc
    have ho : ops[k]? = some o := by simpa using (hl 0).symm
    have hl' : ∀ j, l[j]? = ops[k + 1 + j]? := fun j => by have := hl (j + 1); simpa [Nat.add_assoc, Nat.add_comm 1 j] using this
    simp only [List.length_cons, List.range'_succ, wpOpsS, ho]
    simp only [vopsS, vopS] at h
    by_cases hr : isRecov o.op b.i = true
    · have hck := hc.1
      simp only [ckAS, hr, if_true, Bool.and_eq_true, beq_iff_eq] at hck
      obtain ⟨⟨hdst, hd⟩, hg⟩ := hck
      have hdlt : ∀ k, o.dst = some k → k < N := fun k hk => by
        rw [hdst] at hk
        rw [hk] at hd
        simpa using hd
      have hw := wanted_specS H hg
      rw [hw]
      obtain ⟨c, hop, hbi, hcal⟩ : ∃ c, o.op = .call c ∧ b.i = .recov ∧ c.callee = .builtin .recover := by
        unfold isRecov at hr
        split at hr
        · rename_i c hoo hbb
          split at hr
          · rename_i hcc; exact ⟨c, hoo, hbb, hcc⟩
          · cases hr
        · cases hr
      rw [hbi] at h
      simp only at h
      have hrun : (execOp a.eval o).run x.P w = .ok .recover w := by
        simp only [execOp, hop, resolve, hcal]
        rfl
      by_cases hwt : Vs.wanted s.t b.g = true
      · rw [if_pos hwt] at h ⊢
        rw [hrun]
        simp only
        cases m with
        | none =>
          obtain ⟨_, rfl⟩ := hm
          rw [recoverD_none]
          simp only at h ⊢
          rw [← hdst] at h
          exact vopsS_sound hx l bs (k + 1) E _ .none .returning _ w hl' hE hc.2 (H.put (Le.refl E) H.sr hdlt .nifc) ⟨‹_›, rfl⟩ h
        | pend v =>
          obtain ⟨u, hpv, hvr, rfl⟩ := hm
          rw [recoverD_pend]
          simp only at h ⊢
          rw [← hdst] at h
          exact vopsS_sound hx l bs (k + 1) E _ (.recd v) _ _ w hl' hE hc.2 (H.put (Le.refl E) H.sr hdlt (hvr.mono hE)) ⟨u, hpv, rfl⟩ h
        | recd v =>
          obtain ⟨u, hpv, rfl⟩ := hm
          rw [recoverD_recd]
          simp only at h ⊢
          rw [← hdst] at h
          exact vopsS_sound hx l bs (k + 1) E _ (.recd v) _ _ w hl' hE hc.2 (H.put (Le.refl E) H.sr hdlt .nifc) ⟨u, hpv, rfl⟩ h
      · rw [if_neg hwt] at h ⊢
        rw [← hdst] at h
        exact vopsS_sound hx l bs (k + 1) E _ m fm _ w hl' hE hc.2 (H.put (Le.refl E) H.sr hdlt (udf_vr E)) hm h
    · have hck : ckA x.P N ops o b = true := by have := hc.1; simp only [ckAS, hr] at this; exact this
      have hh : vop x b (fun e s => Q e s m) (fun s => vopsS x Q bs s m) s := by
        cases hbi : b.i <;> simp only [hbi] at h <;> first
          | exact h
          | skip
        have hck2 := hck
        simp only [ckA, hbi, Bool.and_eq_true] at hck2
        have h3 := hck2.1.2
        exfalso
        revert h3
        cases hop : o.op <;> simp [ckI]
      have hw := wanted_spec H hck
      have := vop_sound (K' := fun a' w' => wpOpsS x.P ops (LiftS x w0 N E0 c0 cs pv Q) (List.range' (k + 1) l.length) a' ({ c0 with mode := fm } :: cs) w') hx H hck hE
        (fun E' s' a' w' hE' H' hk => vopsS_sound hx l bs (k + 1) E' s' m fm a' w' hl' (hE.trans hE') hc.2 H' hm hk) hh
      by_cases hwt : Region.wanted o (yielded ops a.tmps) = true
      · rw [if_pos hwt] at this ⊢
        unfold Oper.wp at this
        generalize (execOp a.eval o).run x.P w = r at this ⊢
        split
        · exact this.elim
        · exact upon_mono this fun e a' w' ⟨E', s', y, h1, h2, h3, h4⟩ => ⟨E', s', y, m, fm, h1, h2, h3, hm, rfl, h4⟩
      · rw [if_neg hwt] at this ⊢
        exact this
  | [], _ :: _, _, _, _, _, _, _, _, _, _, hc, _, _, _ => by simp [ckAsS] at hc
  | _ :: _, [], _, _, _, _, _, _, _, _, _, hc, _, _, _ => by simp [ckAsS] at hc

theorem wpS_mono {P : Program} {c : Code} {Q R : Exit → Act → List Frame → World → Prop} {a : Act} {cs : List Frame} {w : World} (h : c.wpS P Q a cs w) (hq : ∀ e a cs w, Q e a cs w → R e a cs w) : c.wpS P R a cs w :=
  fun b k hb hr => let ⟨e, a', cs', w', q, r⟩ := h b k hb hr; ⟨e, a', cs', w', hq _ _ _ _ q, r⟩

theorem wpS_of_vc (hx : XOk x) {E0 : Env} {c : Code} {d : C} {Q : Ex → St → MS → Prop} {m : MS} {fm : FrameMode} (hc : ckC x.P N c d = true) (hE : Le E0 E) (H : SRel x w0 N E s a w) (hm : msMode m pv fm E0) (h : vc x d (fun e s => Q e s m) s) :
    c.wpS x.P (LiftS x w0 N E0 c0 cs pv Q) a ({ c0 with mode := fm } :: cs) w :=
  wpS_of_wp (wp_mono (vc_sound hx c d _ E0 E s a w hc hE H h) fun e a' w' ⟨E', s', y, h1, h2, h3, h4⟩ => ⟨E', s', y, m, fm, h1, h2, h3, hm, rfl, h4⟩)

theorem vcS_sound (hx : XOk x) {E0 : Env} : ∀ (d : C) (c : Code) (Q : Ex → St → MS → Prop) (E : Env) (s : St) (m : MS) (fm : FrameMode) (a : Act) (w : World), ckCS x.P N c d = true → Le E0 E → SRel x w0 N E s a w → msMode m pv fm E0 → vcS x d Q s m →
    c.wpS x.P (LiftS x w0 N E0 c0 cs pv Q) a ({ c0 with mode := fm } :: cs) w := by
  intro d
  induction d with
  | seq d1 d2 ih1 ih2 =>
    intro c Q E s m fm a w hc hE H hm h
    cases c with
    | seq a1 a2 =>
      simp only [ckCS, Bool.and_eq_true] at hc
      simp only [vcS] at h
      refine wpS_seq (wpS_mono (ih1 a1 _ E s m fm a w hc.1 hE H hm h) fun e a' cs' w' ⟨E', s', y, m', fm', h1, h2, h3, h4, h5, h6⟩ => ?_)
      subst h5
      cases y with
      | normal =>
        cases e <;> try (exact h3.elim)
        exact ih2 a2 Q E' s' m' fm' a' w' hc.2 h1 h2 h4 h6
      | ret => cases e <;> first | exact h3.elim | exact ⟨E', s', .ret, m', fm', h1, h2, h3, h4, rfl, h6⟩
      | pan v => cases e <;> first | exact h3.elim | exact ⟨E', s', .pan v, m', fm', h1, h2, h3, h4, rfl, h6⟩
      | exit i => cases e <;> first | exact h3.elim | exact ⟨E', s', .exit i, m', fm', h1, h2, h3, h4, rfl, h6⟩
    | _ => simp [ckCS, ckC] at hc
  | cond o d1 d2 ih1 ih2 =>
    intro c Q E s m fm a w hc hE H hm h
    cases c with
    | cond p a1 a2 =>
      simp only [ckCS, Bool.and_eq_true] at hc
      simp only [vcS] at h
      have hv := ckO_spec (x := x) H.gr H.tm hc.1.1
      generalize hu : a.eval p = u at hv
      split at h
      · rename_i hb
        rw [hb] at hv
        cases hv
        exact wpS_cond (t := true) hu (ih1 a1 Q E s m fm a w hc.1.2 hE H hm h)
      · rename_i hb
        rw [hb] at hv
        cases hv
        exact wpS_cond (t := false) hu (ih2 a2 Q E s m fm a w hc.2 hE H hm h)
      · exact h.elim
    | _ => simp [ckCS, ckC] at hc
  | reg as =>
    intro c Q E s m fm a w hc hE H hm h
    cases c with
    | region i ops b =>
      cases b with
      | false =>
        simp only [ckCS] at hc
        refine wpS_region ?_
        have := vopsS_sound (c0 := c0) (cs := cs) (pv := pv) (Q := Q) hx (ops := ops) ops.toList as 0 E s m fm a w (fun j => by simp) hE hc H hm h
        simpa [List.range_eq_range'] using this
      | true => simp [ckCS, ckC] at hc
    | _ => simp [ckCS, ckC] at hc
  | _ =>
    intro c Q E s m fm a w hc hE H hm h
    simp only [vcS] at h
    refine wpS_of_vc hx ?_ hE H hm h
    cases c with
    | region i ops b => cases b <;> exact hc
    | _ => exact hc

theorem ckFS_spec {P : Program} {f : FuncId} {F : Fun} (hc : ckFS P f F = true) : ∃ fn c, P.funcs[f]? = some fn ∧ fn.body = some c ∧ fn.ntmps = F.n ∧ F.np ≤ F.n ∧ ckCS P F.n c F.c = true ∧ ckRs P fn.results.toList F.rs = true ∧ callable P f = true := by
  unfold ckFS at hc
  split at hc
  · rename_i fn hf
    simp only [Bool.and_eq_true, beq_iff_eq, decide_eq_true_eq, bne_iff_ne, ne_eq] at hc
    obtain ⟨⟨⟨⟨h1, h2⟩, h3⟩, h4⟩, h5⟩ := hc
    split at h3
    · rename_i c hb
      exact ⟨fn, c, hf, hb, h1, h2, h3, h4, by simp [callable, hf, hb, h5]⟩
    · cases h3
  · cases hc

def MS.was : MS → Bool
  | .recd _ => true
  | _ => false

/-- What is left behind the body of a deferred function, which defers nothing itself. -/
def postS (x : X) (F : Fun) (R : Bool → Hp → Prop) : Ex → St → MS → Prop
  | .normal, s, m => s.d = [] ∧ (∃ v, resV F.rs s.t s.h = some v) ∧ R m.was s.h
  | .ret, s, m => s.d = [] ∧ (∃ v, resV F.rs s.t s.h = some v) ∧ R m.was s.h
  | _, _, _ => False

def msOf : Option V → MS
  | none => .none
  | some v => .pend v

theorem acallsD_of (hx : XOk x) {f : FuncId} {F : Fun} (hc : ckFS x.P f F = true) {args : List V} (hn : args.length = F.np) {h : Hp} {p : Option V} {R : Bool → Hp → Prop} (hv : vcS x F.c (postS x F R) { t := start args, h, d := [] } (msOf p)) : ACallsD x f args h p R := by
  obtain ⟨fn, c, hf, hb, h1, h2, h3, h4, h5⟩ := ckFS_spec hc
  refine ⟨h5, fun w0 E w vs pv hs hg hvs hp hp' => callsD_of_wpS hf hb fun c₀ cs hmode => ?_⟩
  have hst := SRel.start (N := F.n) hs hg hvs (by omega)
  rw [h1]
  have hm : msMode (msOf p) pv (mode pv) E := by
    cases p with
    | none => rw [hp' rfl]; exact ⟨rfl, rfl⟩
    | some v => obtain ⟨u, rfl, hvr⟩ := hp v rfl; exact ⟨u, rfl, hvr, rfl⟩
  have hc0 : c₀ = { c₀ with mode := mode pv } := by rw [← hmode]
  have hsound := vcS_sound (c0 := c₀) (cs := cs) (pv := pv) (w0 := w0) hx F.c c (postS x F R) E _ (msOf p) (mode pv) _ w h3 (Le.refl E) hst hm hv
  rw [← hc0] at hsound
  refine wpS_mono hsound fun e a cs' w' ⟨E', s', y, m', fm', hE, H, hy, hm', hcs, hq⟩ => ?_
  have hdf : s'.d = [] → a.defers = [] := fun hd => by
    have := H.df.1
    rw [hd] at this
    exact List.eq_nil_of_length_eq_zero (by simpa using this)
  have key : s'.d = [] ∧ (∃ v, resV F.rs s'.t s'.h = some v) ∧ R m'.was s'.h →
      a.defers = [] ∧ ∃ u', cs' = { c₀ with mode := u' } :: cs ∧ ∃ v, (results fn a.tmps).run x.P w' = .ok v w' ∧
        ∃ E' h' rc, Le E E' ∧ SR w0 E' h' w' ∧ (∃ r, Ending.returned v = .returned r) ∧ ((rc = false ∧ u' = mode pv) ∨ (rc = true ∧ ∃ v, pv = some v ∧ u' = .panicking [{ v, recovered := true }])) ∧ R rc h' := by
    rintro ⟨hd, ⟨v, hr⟩, hR⟩
    obtain ⟨u, hu, hvr⟩ := results_spec (x := x) H.sr H.tm h4 hr
    refine ⟨hdf hd, fm', hcs, u, hu, E', s'.h, _, hE, H.sr, ⟨u, rfl⟩, ?_, hR⟩
    cases m' with
    | none => obtain ⟨rfl, rfl⟩ := hm'; exact .inl ⟨rfl, rfl⟩
    | pend v => obtain ⟨u, rfl, _, rfl⟩ := hm'; exact .inl ⟨rfl, rfl⟩
    | recd v => obtain ⟨u, rfl, rfl⟩ := hm'; exact .inr ⟨rfl, u, rfl, rfl⟩
  cases y with
  | normal => cases e <;> first | exact hy.elim | exact key hq
  | ret => cases e <;> first | exact hy.elim | exact key hq
  | pan v => exact hq.elim
  | exit i => exact hq.elim
end
end Go.Vs
namespace Go.Vs
open Go.RowKit
set_option linter.unusedSimpArgs false
set_option linter.unusedVariables false

theorem put_some (t : Nat → V) (d : Nat) (v : V) (n : Nat) : put t (some d) v n = if n = d then v else t n := rfl
theorem put_none (t : Nat → V) (v : V) : put t none v = t := rfl
theorem start_cons0 (a : V) (l : List V) : start (a :: l) 0 = a := rfl
theorem start_succ (a : V) (l : List V) (n : Nat) : start (a :: l) (n + 1) = start l n := rfl

def V.fits : V → Prop
  | .sl _ _ len cap _ _ _ => len ≤ cap
  | _ => True

/-- A slice of elements of 'es' cells each, read cell by cell. -/
def Sl (h : Hp) (es : Nat) (s : V) (n : Nat) (ys : List V) : Prop := src h es s = some (n, ys) ∧ s.isStr = false ∧ s.fits

theorem Sl.shape {h : Hp} {es : Nat} {s : V} {n : Nat} {ys : List V} (H : Sl h es s n ys) : (s = .nsl ∧ n = 0 ∧ ys = []) ∨
    (∃ b off cap ex ag cs ty, s = .sl b off n cap ex es ag ∧ hget h b = some (.cells cs ty) ∧ sub cs off (n * es) = some ys ∧ n ≤ cap) ∨
    (∃ ex xs, s = .lst ex xs ∧ n = xs.length ∧ ys = flat xs ∧ ∀ x ∈ xs, x.cells.length = es) := by
  obtain ⟨h1, h2, hfit⟩ := H
  unfold src at h1
  split at h1
  · simp only [Option.some.injEq, Prod.mk.injEq] at h1
    exact .inl ⟨rfl, h1.1.symm, h1.2.symm⟩
  · rename_i b off len cap ex es' ag
    split at h1
    · rename_i he
      subst he
      simp only [Option.map_eq_some_iff, Prod.mk.injEq] at h1
      obtain ⟨l, h3, rfl, rfl⟩ := h1
      simp only [rd] at h3
      split at h3
      · rename_i cs ty hg
        exact .inr (.inl ⟨b, off, cap, ex, ag, cs, ty, rfl, hg, h3, hfit⟩)
      · cases h3
    · cases h1
  · rename_i ex xs
    split at h1
    · rename_i hx
      simp only [Option.some.injEq, Prod.mk.injEq] at h1
      exact .inr (.inr ⟨ex, xs, rfl, h1.1.symm, h1.2.symm, hx⟩)
    · cases h1
  · simp [V.isStr] at h2
  · cases h1

theorem Sl.len {h : Hp} {es : Nat} {s : V} {n : Nat} {ys : List V} (H : Sl h es s n ys) : lenV h .slc s = some (.int .i64 n) := by
  rcases H.shape with ⟨rfl, rfl, _⟩ | ⟨b, off, cap, ex, ag, cs, ty, rfl, _, _, _⟩ | ⟨ex, xs, rfl, rfl, _, _⟩ <;> rfl

theorem sub_len {cs l : List V} {o n : Nat} (h : sub cs o n = some l) : l.length = n := (sub_spec h).2.1

theorem flat_length {xs : List V} {es : Nat} (h : ∀ x ∈ xs, x.cells.length = es) : (flat xs).length = xs.length * es := by
  induction xs with
  | nil => simp [flat]
  | cons x r ih =>
    have h1 := h x (by simp)
    have h2 := ih (fun y hy => h y (by simp [hy]))
    simp only [flat, List.flatMap_cons, List.length_append, List.length_cons] at h2 ⊢
    rw [h1, h2, Nat.succ_mul]; omega

theorem Sl.ylen {h : Hp} {es : Nat} {s : V} {n : Nat} {ys : List V} (H : Sl h es s n ys) : ys.length = n * es := by
  rcases H.shape with ⟨rfl, rfl, rfl⟩ | ⟨b, off, cap, ex, ag, cs, ty, rfl, _, h3, _⟩ | ⟨ex, xs, rfl, rfl, rfl, h3⟩
  · simp
  · exact sub_len h3
  · exact flat_length h3

/-- The element's address. -/
def iadV (es : Nat) (s i : V) : Option V := match s, i with
  | .sl b off len _ _ es' _, .int _ i => if es' = es ∧ 0 ≤ i ∧ i < len then some (.ptr b (off + i.toNat * es)) else none
  | .lst _ xs, .int _ i => if 0 ≤ i ∧ i < xs.length ∧ (xs.getD i.toNat .nptr).cells.length = es then some (.fp (xs.getD i.toNat .nptr).cells 0) else none
  | _, _ => none

theorem aop_iad (x : X) (t : Nat → V) (h : Hp) (es : Nat) (a i : O) : aop x t h (.iad es a i) = (iadV es (a.ev x t) (i.ev x t)).map fun v => .val v h := by
  simp only [aop, iadV]
  generalize a.ev x t = u
  generalize i.ev x t = v
  cases u <;> cases v <;> first | rfl | (simp only []; split <;> rfl)

theorem flat_sub {xs : List V} {es : Nat} (h : ∀ x ∈ xs, x.cells.length = es) {i : Nat} (hi : i < xs.length) : ((flat xs).drop (i * es)).take es = (xs.getD i .nptr).cells := by
  induction xs generalizing i with
  | nil => simp at hi
  | cons x r ih =>
    have h1 := h x (by simp)
    cases i with
    | zero => simp [flat, h1]
    | succ i =>
      have h2 := ih (fun y hy => h y (by simp [hy])) (i := i) (by simpa using hi)
      have e : (flat (x :: r)).drop ((i + 1) * es) = (flat r).drop (i * es) := by
        simp only [flat, List.flatMap_cons]
        rw [List.drop_append, Nat.succ_mul, List.drop_eq_nil_of_le (by omega), h1]
        simp
      rw [e, h2]; simp

theorem Sl.at {h : Hp} {es : Nat} {s : V} {n : Nat} {ys : List V} (H : Sl h es s n ys) {k : IntKind} {i : Nat} (hi : i < n) : ∃ p, iadV es s (.int k i) = some p ∧ rd h p es = some ((ys.drop (i * es)).take es) := by
  rcases H.shape with ⟨rfl, rfl, rfl⟩ | ⟨b, off, cap, ex, ag, cs, ty, rfl, hg, h3, _⟩ | ⟨ex, xs, rfl, rfl, rfl, h3⟩
  · omega
  · refine ⟨.ptr b (off + i * es), by simp [iadV, hi], ?_⟩
    have hle : (i + 1) * es ≤ n * es := Nat.mul_le_mul_right _ (by omega)
    rw [Nat.succ_mul] at hle
    simp only [rd, hg]
    unfold sub at h3 ⊢
    split at h3
    · cases h3
      rw [if_pos (by omega)]
      congr 1
      rw [List.drop_take, List.drop_drop, List.take_take]
      congr 1
      omega
    · cases h3
  · have hgd : (xs.getD i .nptr).cells.length = es := by
      rw [List.getD_eq_getElem?_getD, List.getElem?_eq_getElem hi]
      exact h3 _ (List.getElem_mem hi)
    refine ⟨.fp (xs.getD i .nptr).cells 0, by simp only [iadV, Int.toNat_natCast]; rw [if_pos ⟨by omega, by omega, hgd⟩], ?_⟩
    simp only [rd]
    unfold sub
    rw [if_pos (by omega), flat_sub h3 hi]
    rw [List.drop_zero, List.take_of_length_le (by omega)]


section
variable (x : X) (t : Nat → V) (h : Hp)
theorem aop_mov (a : O) : aop x t h (.mov a) = some (.val (a.ev x t) h) := rfl
theorem aop_new (z : List V) (ty : Option TypeId) : aop x t h (.new z ty) = some (.val (.ptr h.length 0) (h ++ [some (.cells z ty)])) := rfl
theorem aop_box (ty : Option TypeId) (a : O) : aop x t h (.box ty a) = if ∀ c ∈ (a.ev x t).cells, c.one = true then some (.val (.ptr h.length 0) (h ++ [some (.cells (a.ev x t).cells ty)])) else none := rfl
theorem aop_build (z : List V) (ps : List (Nat × Nat × O)) : aop x t h (.build z ps) = (fillV z (ps.map fun (o, n, a) => (o, n, a.ev x t))).map fun cs => .val (.agg cs) h := rfl
theorem aop_mks (es bt : Nat) (ag : Bool) (z : List V) (len : Nat) (ps : List (Nat × O)) : aop x t h (.mks true es bt ag z len ps) = (fillV z (ps.map fun (i, a) => (i * es, es, a.ev x t))).map fun cs => .val (.lst true (chunk es ag len cs)) h := by
  simp only [aop]; split <;> rename_i hf <;> rw [hf] <;> rfl
theorem aop_mksl0 (es bt : Nat) (ag : Bool) (z : List V) (len : Nat) (ps : List (Nat × O)) : aop x t h (.mks false es bt ag z len ps) = (fillV z (ps.map fun (i, a) => (i * es, es, a.ev x t))).map fun cs => .val (.sl h.length 0 len len true es ag) (h ++ [some (.cells cs)]) := by
  simp only [aop]; split <;> rename_i hf <;> rw [hf] <;> rfl
theorem aop_load (n : Nat) (ag : Bool) (a : O) : aop x t h (.load n ag a) = ((rd h (a.ev x t) n).bind (asV ag)).map fun v => .val v h := rfl
def stV (h : Hp) (n : Nat) (a v : V) : Option Rz := match a with
  | .ptr b o => if v.cells.length = n ∧ (∀ c ∈ v.cells, c.one = true) then (wr h b o v.cells).map .skip else none
  | _ => none
theorem aop_store (n : Nat) (a v : O) : aop x t h (.store n a v) = stV h n (a.ev x t) (v.ev x t) := rfl
def nilV (x : X) (h : Hp) : V → Option Rz
  | .ptr b o => some (.val (.ptr b o) h)
  | .fp cs o => some (.val (.fp cs o) h)
  | .fn (.func f) a b => some (.val (.fn (.func f) a b) h)
  | .fn (.method m) a b => if methNil x m a then some (.val (.fn (.method m) a b) h) else none
  | .ifc ty v => some (.val (.ifc ty v) h)
  | _ => none
theorem aop_nilck (a : O) : aop x t h (.nilck a) = nilV x h (a.ev x t) := rfl
theorem aop_bin (op : BinOp) (q : Q) (a b : O) : aop x t h (.bin op q a b) = (if q = .ifc ∧ a.isTmp = true ∧ b.isTmp = true then none else binV op q (a.ev x t) (b.ev x t)).map fun v => .val v h := rfl
theorem aop_un (op : UnOp) (a : O) : aop x t h (.un op a) = (unV op (a.ev x t)).map fun v => .val v h := rfl
def cviV (k : IntKind) : V → Option V
  | .int _ n => some (.int k (k.wrap n))
  | _ => none
theorem aop_cvi (k : IntKind) (a : O) : aop x t h (.cvi k a) = (cviV k (a.ev x t)).map fun v => .val v h := by
  simp only [aop]; generalize a.ev x t = u; cases u <;> rfl
def s2bV (h : Hp) (fz : Bool) : V → Option Rz
  | .str s => if fz then some (.val (.lst false (s.map fun c => .int .u8 c.toNat)) h) else some (newSl h s.length 1 false (s.map fun c => .int .u8 c.toNat))
  | _ => none
theorem aop_s2b (fz : Bool) (a : O) : aop x t h (.s2b fz a) = s2bV h fz (a.ev x t) := rfl
def b2sV (h : Hp) (v : V) : Option V := if v.isStr = true then none else match src h 1 v with
  | some (_, cs) => if ∀ c ∈ cs, c.isByte = true then some (.str (cs.map fun | .int _ n => UInt8.ofNat n.toNat | _ => 0)) else none
  | none => none
theorem aop_b2s (a : O) : aop x t h (.b2s a) = (b2sV h (a.ev x t)).map fun v => .val v h := by
  simp only [aop, b2sV]
  generalize a.ev x t = u
  cases u.isStr <;> simp only [if_true, if_false, Bool.false_eq_true]
  · generalize src h 1 u = y
    cases y with
    | none => rfl
    | some p => simp only []; split <;> rfl
  · rfl
theorem aop_mki (ty : TypeId) (a : O) : aop x t h (.mki ty a) = some (.val (.ifc ty (a.ev x t)) h) := rfl
def fadV (h : Hp) (off : Nat) : V → Option Rz
  | .ptr b o => some (.val (.ptr b (o + off)) h)
  | .fp cs o => some (.val (.fp cs (o + off)) h)
  | _ => none
theorem aop_fad (off : Nat) (a : O) : aop x t h (.fad off a) = fadV h off (a.ev x t) := rfl
def fldV (h : Hp) (off n : Nat) (ag : Bool) : V → Option Rz
  | .agg cs => ((sub cs off n).bind (asV ag)).map fun v => .val v h
  | _ => none
theorem aop_fld (off n : Nat) (ag : Bool) (a : O) : aop x t h (.fld off n ag a) = fldV h off n ag (a.ev x t) := rfl
def idxsV (h : Hp) : V → V → Option Rz
  | .str s, .int _ i => if 0 ≤ i ∧ i < s.length then some (.val (.int .u8 (s.getD i.toNat 0).toNat) h) else none
  | _, _ => none
theorem aop_idxs (a i : O) : aop x t h (.idxs a i) = idxsV h (a.ev x t) (i.ev x t) := rfl
def extV (h : Hp) (i : Nat) : V → Option Rz
  | .tup vs => (vs[i]?).map fun v => .val v h
  | _ => none
theorem aop_ext (a : O) (i : Nat) : aop x t h (.ext a i) = extV h i (a.ev x t) := rfl
theorem aop_len (q : Q) (a : O) : aop x t h (.len q a) = (lenV h q (a.ev x t)).map fun v => .val v h := rfl
theorem aop_lenc (n : Nat) : aop x t h (.lenc n) = some (.val (.int .i64 n) h) := rfl
def appR (h : Hp) (es bt : Nat) (ag : Bool) (ty : Option TypeId) (s a : V) : Option Rz := match src h es a with
  | some (n, ys) => appV h es bt ag ty s n ys
  | none => none
theorem aop_app (es bt : Nat) (ag : Bool) (ty : Option TypeId) (s a : O) : aop x t h (.app es bt ag ty s a) = appR h es bt ag ty (s.ev x t) (a.ev x t) := rfl
theorem aop_slc_lo (st : Bool) (es : Nat) (a lo : O) : aop x t h (.slc st es a (some lo) none none) = if (a.ev x t).isStr ≠ st then none else match bnd x t 0 (some lo) with
  | some l => (slcV es (a.ev x t) l none none).map fun v => .val v h
  | none => none := by simp only [aop]; split; rfl; generalize bnd x t 0 (some lo) = u; cases u <;> rfl
theorem aop_slc_hi (st : Bool) (es : Nat) (a hi : O) : aop x t h (.slc st es a none (some hi) none) = if (a.ev x t).isStr ≠ st then none else match bnd x t 0 (some hi) with
  | some u => (slcV es (a.ev x t) 0 (some u) none).map fun v => .val v h
  | none => none := by simp only [aop, Option.map_some, Option.map_none]; split; rfl; generalize bnd x t 0 (some hi) = u; cases u <;> rfl
theorem aop_slc_lohi (st : Bool) (es : Nat) (a lo hi : O) : aop x t h (.slc st es a (some lo) (some hi) none) = if (a.ev x t).isStr ≠ st then none else match bnd x t 0 (some lo), bnd x t 0 (some hi) with
  | some l, some u => (slcV es (a.ev x t) l (some u) none).map fun v => .val v h
  | _, _ => none := by simp only [aop, Option.map_some, Option.map_none]; split; rfl; generalize bnd x t 0 (some hi) = u; generalize bnd x t 0 (some lo) = l; cases u <;> cases l <;> rfl
theorem aop_slc3 (st : Bool) (es : Nat) (a lo hi mx : O) : aop x t h (.slc st es a (some lo) (some hi) (some mx)) = if (a.ev x t).isStr ≠ st then none else match bnd x t 0 (some lo), bnd x t 0 (some hi), bnd x t 0 (some mx) with
  | some l, some u, some m => (slcV es (a.ev x t) l (some u) (some m)).map fun v => .val v h
  | _, _, _ => none := by simp only [aop, Option.map_some, Option.map_none]; split; rfl; generalize bnd x t 0 (some hi) = u; generalize bnd x t 0 (some lo) = l; generalize bnd x t 0 (some mx) = m; cases u <;> cases l <;> cases m <;> rfl
theorem bnd_some (d : Nat) (o : O) : bnd x t d (some o) = match o.ev x t with
  | .int _ n => if 0 ≤ n then some n.toNat else none
  | _ => none := rfl
def clrV (h : Hp) (z : List V) : V → Option Rz
  | .nsl => some (.val (.tup []) h)
  | .sl b off len _ _ es _ => if z.length = es then (if len = 0 then some (.val (.tup []) h) else (wr h b off (List.replicate len z).flatten).map (.val (.tup []))) else none
  | _ => none
theorem aop_clr (z : List V) (a : O) : aop x t h (.clr z a) = clrV h z (a.ev x t) := rfl
def pneV (h : Hp) : V → V → Option Rz
  | .ptr b o, .ptr b' o' => if b = b' ∧ o = o' ∧ (hget h b).isSome = true then some (.val (.bool false) h) else none
  | _, _ => none
theorem aop_pne (a b : O) : aop x t h (.pne a b) = pneV h (a.ev x t) (b.ev x t) := rfl
def toUV (h : Hp) : V → Option Rz
  | .nptr => some (.val .nptr h)
  | .ptr b o => match rd h (.ptr b o) 1 with
    | some _ => some (.val (.ptr b o) h)
    | none => none
  | _ => none
theorem aop_toU (a : O) : aop x t h (.toU a) = toUV h (a.ev x t) := rfl
def frUV (h : Hp) (ty : TypeId) (n : Nat) : V → Option Rz
  | .nptr => some (.val .nptr h)
  | .ptr b o => match hget h b with
    | some (.cells cs (some ty')) => if ty' = ty ∧ o = 0 ∧ n ≤ cs.length then some (.val (.ptr b o) h) else none
    | _ => none
  | _ => none
theorem aop_frU (ty : TypeId) (n : Nat) (a : O) : aop x t h (.frU ty n a) = frUV h ty n (a.ev x t) := rfl
theorem aop_noEsc (a : O) : aop x t h (.noEsc a) = some (.val (a.ev x t) h) := rfl
def sldV (h : Hp) : V → Option Rz
  | .nsl => some (.val .nptr h)
  | .sl b off _ cap _ _ _ => if 0 < cap then some (.val (.ptr b off) h) else none
  | _ => none
theorem aop_sld (a : O) : aop x t h (.sld a) = sldV h (a.ev x t) := rfl
def ustrV (h : Hp) (ty : TypeId) : V → V → Option Rz
  | .nptr, .int .i64 n => if n = 0 then some (.val (.str []) h) else none
  | .ptr b o, .int .i64 n => if n = 0 then some (.val (.str []) h) else
    match hget h b with
    | some (.cells cs (some ty')) => if ty' = ty ∧ o = 0 ∧ 0 ≤ n ∧ n ≤ 9223372036854775807 then (match sub cs 0 n.toNat with
      | some l => if ∀ c ∈ l, c.isByte = true then some (.val (.str (l.map fun | .int _ n => UInt8.ofNat n.toNat | _ => 0)) (h.set b none)) else none
      | none => none) else none
    | _ => none
  | _, _ => none
theorem aop_ustr (ty : TypeId) (p n : O) : aop x t h (.ustr ty p n) = ustrV h ty (p.ev x t) (n.ev x t) := rfl
def pickV : V → V → V → Option V
  | .bool c, a, b => some (if c then a else b)
  | _, _, _ => none
theorem aop_pickV (c a b : O) : aop x t h (.pick c a b) = (pickV (c.ev x t) (a.ev x t) (b.ev x t)).map fun v => .val v h := by
  simp only [aop, pickV]; generalize c.ev x t = u; cases u <;> rfl
theorem pickV_bool (c : Bool) (a b : V) : pickV (.bool c) a b = some (if c then a else b) := rfl
def asrtV (h : Hp) (ty : TypeId) (zero : V) (ok : Bool) : V → Option Rz
  | .ifc u v => if u = ty then some (.val (if ok then .tup [v, .bool true] else v) h) else if ok then some (.val (.tup [zero, .bool false]) h) else none
  | .nifc => if ok then some (.val (.tup [zero, .bool false]) h) else none
  | _ => none
theorem aop_asrt (ty : TypeId) (zero : V) (a : O) (ok : Bool) : aop x t h (.asrt ty zero a ok) = asrtV h ty zero ok (a.ev x t) := rfl
def panV : V → Option Rz
  | .ifc ty v => some (.pan (.ifc ty v))
  | _ => none
theorem aop_pan (a : O) : aop x t h (.pan a) = panV (a.ev x t) := rfl
theorem aop_call (f : FuncId) (args : List O) : aop x t h (.call (.k (.fn (.func f) [] [])) args) = some (.call f (evs x t args)) := by
  simp only [aop, O.ev, callV, Option.map_some, List.nil_append, List.append_nil]
theorem aop_dfr (f : FuncId) (args : List O) : aop x t h (.dfr (.k (.fn (.func f) [] [])) args) = some (.dfr f (evs x t args)) := by
  simp only [aop, O.ev, callV, Option.map_some, List.nil_append, List.append_nil]
def maxV (h : Hp) : V → V → Option Rz
  | .int k a, .int k' b => if k = k' then some (.val (.int k (if b > a then b else a)) h) else none
  | _, _ => none
theorem aop_max (a b : O) : aop x t h (.max a b) = maxV h (a.ev x t) (b.ev x t) := rfl
end


/-! ### Code, step by step -/
section
variable (x : X)
def thn (b : C) (Q : Ex → St → Prop) : Ex → St → Prop := fun e s => match e with
  | .normal => vc x b Q s
  | e => Q e s
def blk (id : Nat) (Q : Ex → St → Prop) : Ex → St → Prop := fun e s => match e with
  | .exit i => if i = id then Q .normal s else Q (.exit i) s
  | e => Q e s
def rnd (I : Nat → St → Prop) (n : Nat) (Q : Ex → St → Prop) : Ex → St → Prop := fun e s => match e with
  | .normal => ∃ m, m < n ∧ I m s
  | e => Q e s
def cal (Q : Ex → St → Prop) (K : St → Prop) (d : Option Nat) (s : St) : Res → Hp → Prop := fun r h => match r with
  | .ret v => K { s with t := put s.t d v, h }
  | .pan v => Q (.pan v) { s with h }
def vopR (d : Option Nat) (Q : Ex → St → Prop) (K : St → Prop) (s : St) : Option Rz → Prop
  | some (.val v h) => K { s with t := put s.t d v, h }
  | some (.skip h) => K { s with t := put s.t d udf, h }
  | some (.call f args) => ACalls x f args s.h (cal Q K d s)
  | some (.dfr f args) => K { s with t := put s.t d udf, d := (f, args) :: s.d }
  | some (.pan v) => Q (.pan v) s
  | none => False

section
variable (Q : Ex → St → Prop) (K : St → Prop) (s : St) (a b : C)
theorem vc_skip : vc x .skip Q s = Q .normal s := rfl
theorem vc_reg (l : List A) : vc x (.reg l) Q s = vops x Q l s := rfl
theorem vc_seq : vc x (.seq a b) Q s = vc x a (thn x b Q) s := rfl
theorem vc_block (id : Nat) : vc x (.block id a) Q s = vc x a (blk id Q) s := rfl
theorem vc_exit (id : Nat) : vc x (.exit id) Q s = Q (.exit id) s := rfl
theorem vc_ret : vc x .ret Q s = Q .ret s := rfl
def cnd (Q : Ex → St → Prop) (s : St) (a b : C) : V → Prop
  | .bool true => vc x a Q s
  | .bool false => vc x b Q s
  | _ => False
theorem vc_cond (o : O) : vc x (.cond o a b) Q s = cnd x Q s a b (o.ev x s.t) := rfl
theorem cnd_true : cnd x Q s a b (.bool true) = vc x a Q s := rfl
theorem cnd_false : cnd x Q s a b (.bool false) = vc x b Q s := rfl
theorem thn_normal : thn x b Q .normal s = vc x b Q s := rfl
theorem thn_exit (i : Nat) : thn x b Q (.exit i) s = Q (.exit i) s := rfl
theorem thn_ret : thn x b Q .ret s = Q .ret s := rfl
theorem thn_pan (v : V) : thn x b Q (.pan v) s = Q (.pan v) s := rfl
theorem blk_normal (i : Nat) : blk i Q .normal s = Q .normal s := rfl
theorem blk_exit (i j : Nat) : blk i Q (.exit j) s = if j = i then Q .normal s else Q (.exit j) s := rfl
theorem blk_ret (i : Nat) : blk i Q .ret s = Q .ret s := rfl
theorem blk_pan (i : Nat) (v : V) : blk i Q (.pan v) s = Q (.pan v) s := rfl
theorem rnd_normal (I : Nat → St → Prop) (n : Nat) : rnd I n Q .normal s = ∃ m, m < n ∧ I m s := rfl
theorem rnd_exit (I : Nat → St → Prop) (n i : Nat) : rnd I n Q (.exit i) s = Q (.exit i) s := rfl
theorem rnd_ret (I : Nat → St → Prop) (n : Nat) : rnd I n Q .ret s = Q .ret s := rfl
theorem rnd_pan (I : Nat → St → Prop) (n : Nat) (v : V) : rnd I n Q (.pan v) s = Q (.pan v) s := rfl
theorem cal_ret (d : Option Nat) (v : V) (h : Hp) : cal Q K d s (.ret v) h = K { s with t := put s.t d v, h } := rfl
theorem cal_pan (d : Option Nat) (v : V) (h : Hp) : cal Q K d s (.pan v) h = Q (.pan v) { s with h } := rfl
theorem vops_nil : vops x Q [] s = Q .normal s := rfl
theorem vops_cons (o : A) (r : List A) : vops x Q (o :: r) s = vop x o Q (vops x Q r) s := rfl
theorem vop_plain (d : Option Nat) (i : I) : vop x ⟨d, i, none⟩ Q K s = vopR x d Q K s (aop x s.t s.h i) := by
  have e : vop x ⟨d, i, none⟩ Q K s = (match aop x s.t s.h i with
    | some (.val v h) => K { s with t := put s.t d v, h }
    | some (.skip h) => K { s with t := put s.t d udf, h }
    | some (.call f args) => ACalls x f args s.h fun r h => match r with
      | .ret v => K { s with t := put s.t d v, h }
      | .pan v => Q (.pan v) { s with h }
    | some (.dfr f args) => K { s with t := put s.t d udf, d := (f, args) :: s.d }
    | some (.pan v) => Q (.pan v) s
    | none => False) := rfl
  rw [e]
  generalize aop x s.t s.h i = r
  rcases r with _ | r
  · rfl
  · cases r <;> rfl
theorem vop_guard (d : Option Nat) (i : I) (g : Nat) (w : Bool) : vop x ⟨d, i, some (g, w)⟩ Q K s = if wanted s.t (some (g, w)) = true then vop x ⟨d, i, none⟩ Q K s else K { s with t := put s.t d udf } := by
  unfold vop
  by_cases h : wanted s.t (some (g, w)) = true
  · simp only [h, if_true]; rfl
  · simp only [h, if_false]; rfl
theorem vopR_val (d : Option Nat) (v : V) (h : Hp) : vopR x d Q K s (some (.val v h)) = K { s with t := put s.t d v, h } := rfl
theorem vopR_skip (d : Option Nat) (h : Hp) : vopR x d Q K s (some (.skip h)) = K { s with t := put s.t d udf, h } := rfl
theorem vopR_call (d : Option Nat) (f : FuncId) (args : List V) : vopR x d Q K s (some (.call f args)) = ACalls x f args s.h (cal Q K d s) := rfl
theorem vopR_dfr (d : Option Nat) (f : FuncId) (args : List V) : vopR x d Q K s (some (.dfr f args)) = K { s with t := put s.t d udf, d := (f, args) :: s.d } := rfl
theorem vopR_pan (d : Option Nat) (v : V) : vopR x d Q K s (some (.pan v)) = Q (.pan v) s := rfl
theorem vc_dreg (l : List A) (d : D) : vc x (.dreg l d) Q s = vD x l Q d s := rfl
theorem vD_done (l : List A) : vD x l Q .done s = Q .normal s := rfl
def anyT (Q : Ex → St → Prop) : Ex → St → Prop := fun e s => ∀ t, Q e { s with t }
def nth (l : List A) (i : Nat) : Option A := l[i]?
theorem nth_zero (a : A) (l : List A) : nth (a :: l) 0 = some a := rfl
theorem nth_succ (a : A) (l : List A) (n : Nat) : nth (a :: l) (n + 1) = nth l n := rfl
def vDo (l : List A) (Q : Ex → St → Prop) (r : D) (s : St) : Option A → Prop
  | some b => vop x b (anyT Q) (vD x l Q r) s
  | none => False
theorem vDo_some (l : List A) (r : D) (b : A) : vDo x l Q r s (some b) = vop x b (anyT Q) (vD x l Q r) s := rfl
theorem vD_free (l : List A) (i : Nat) (r : D) : vD x l Q (.free i r) s = vDo x l Q r s (nth l i) := by
  simp only [vD, nth]
  cases l[i]? <;> rfl
theorem vD_cho (l : List A) (i : Nat) (r o : D) : vD x l Q (.cho i r o) s = (vDo x l Q r s (nth l i) ∧ vD x l Q o s) := by
  simp only [vD, nth]
  cases l[i]? <;> rfl
theorem vD_nope (l : List A) : vD x l Q .nope s = True := rfl
theorem anyT_pan (v : V) : anyT Q (.pan v) s = ∀ t, Q (.pan v) { s with t } := rfl
theorem vc_loop {c : C} (I : Nat → St → Prop) (n : Nat) (hI : I n s) (h : ∀ n s, I n s → vc x c (rnd I n Q) s) : vc x (.loop c) Q s := ⟨I, ⟨n, hI⟩, h⟩
end

theorem resV_one (a : Nat) (t : Nat → V) (h : Hp) : resV [.t a] t h = some (t a) := rfl
theorem resV_two (a b : Nat) (t : Nat → V) (h : Hp) : resV [.t a, .t b] t h = some (.tup [t a, t b]) := rfl
theorem resV_three (a b c : Nat) (t : Nat → V) (h : Hp) : resV [.t a, .t b, .t c] t h = some (.tup [t a, t b, t c]) := rfl
theorem resV_four (a b c d : Nat) (t : Nat → V) (h : Hp) : resV [.t a, .t b, .t c, .t d] t h = some (.tup [t a, t b, t c, t d]) := rfl
theorem resV_nil (t : Nat → V) (h : Hp) : resV [] t h = some (.tup []) := rfl
theorem ev_t (n : Nat) (t : Nat → V) : O.ev x t (.t n) = t n := rfl
theorem ev_k (v : V) (t : Nat → V) : O.ev x t (.k v) = v := rfl
theorem evs_nil (t : Nat → V) : evs x t [] = [] := rfl
theorem evs_cons (t : Nat → V) (o : O) (l : List O) : evs x t (o :: l) = o.ev x t :: evs x t l := rfl
end

/-- What is left behind a body that defers nothing. -/
def pst (rs : List RV) (R : Res → Hp → Prop) : Ex → St → Prop
  | .normal, s => s.d = [] ∧ ∃ v, resV rs s.t s.h = some v ∧ R (.ret v) s.h
  | .ret, s => s.d = [] ∧ ∃ v, resV rs s.t s.h = some v ∧ R (.ret v) s.h
  | .pan v, s => s.d = [] ∧ R (.pan v) s.h
  | .exit _, _ => False
theorem post_pst (F : Fun) (R : Res → Hp → Prop) : post F R = pst F.rs R := by
  funext e s
  cases e <;> rfl
theorem pst_normal (rs : List RV) (R : Res → Hp → Prop) (s : St) : pst rs R .normal s = (s.d = [] ∧ ∃ v, resV rs s.t s.h = some v ∧ R (.ret v) s.h) := rfl
theorem pst_ret (rs : List RV) (R : Res → Hp → Prop) (s : St) : pst rs R .ret s = (s.d = [] ∧ ∃ v, resV rs s.t s.h = some v ∧ R (.ret v) s.h) := rfl
theorem pst_pan (rs : List RV) (R : Res → Hp → Prop) (v : V) (s : St) : pst rs R (.pan v) s = (s.d = [] ∧ R (.pan v) s.h) := rfl

theorem acall {x : X} (hx : XOk x) {f : FuncId} {F : Fun} (hc : ckF x.P f F = true) {args : List V} {h : Hp} (hn : args.length = F.np) {R : Res → Hp → Prop} (hv : vc x F.c (pst F.rs R) { t := start args, h, d := [] }) : ACalls x f args h R :=
  acalls_of hx hc hn (by rw [post_pst]; exact hv)

theorem lenV_str (h : Hp) (s : List UInt8) : lenV h .str (.str s) = some (.int .i64 s.length) := rfl

/-- What is left behind a body that defers. -/
def lvs (x : X) (rs : List RV) (t : Nat → V) (R : Res → Hp → Prop) : List (FuncId × List V) → Option V → Hp → Prop
  | [], none, h => ∃ v, resV rs t h = some v ∧ R (.ret v) h
  | [], some v, h => R (.pan v) h
  | (f, args) :: ds, p, h => ACallsD x f args h p fun rc h' => lvs x rs t R ds (if rc then none else p) h'
def pstD (x : X) (rs : List RV) (R : Res → Hp → Prop) : Ex → St → Prop
  | .normal, s => lvs x rs s.t R s.d none s.h
  | .ret, s => lvs x rs s.t R s.d none s.h
  | .pan v, s => lvs x rs s.t R s.d (some v) s.h
  | .exit _, _ => False
theorem lvs_leave (x : X) (F : Fun) (t : Nat → V) (R : Res → Hp → Prop) : ∀ (ds : List (FuncId × List V)) (p : Option V) (h : Hp), lvs x F.rs t R ds p h = leave x F t R ds p h
  | [], none, h => rfl
  | [], some v, h => rfl
  | (f, args) :: ds, p, h => by
    simp only [lvs, leave]
    congr 1
    funext rc h'
    exact lvs_leave x F t R ds _ h'
theorem acallD {x : X} (hx : XOk x) {f : FuncId} {F : Fun} (hc : ckF x.P f F = true) {args : List V} {h : Hp} (hn : args.length = F.np) {R : Res → Hp → Prop} (hv : vc x F.c (pstD x F.rs R) { t := start args, h, d := [] }) : ACalls x f args h R := by
  refine acalls_of_defers hx hc hn ?_
  have : postD x F R = pstD x F.rs R := by
    funext e s
    cases e <;> simp only [postD, pstD, lvs_leave]
  rw [this]; exact hv
theorem pstD_ret (x : X) (rs : List RV) (R : Res → Hp → Prop) (s : St) : pstD x rs R .ret s = lvs x rs s.t R s.d none s.h := rfl
theorem pstD_normal (x : X) (rs : List RV) (R : Res → Hp → Prop) (s : St) : pstD x rs R .normal s = lvs x rs s.t R s.d none s.h := rfl
theorem pstD_pan (x : X) (rs : List RV) (R : Res → Hp → Prop) (v : V) (s : St) : pstD x rs R (.pan v) s = lvs x rs s.t R s.d (some v) s.h := rfl

attribute [simp] pstD_ret pstD_normal pstD_pan lenV_str vc_dreg vD_done nth_zero nth_succ vDo_some vD_free vD_cho vD_nope anyT_pan vc_skip vc_reg vc_seq vc_block vc_exit vc_ret vc_cond cnd_true cnd_false thn_normal thn_exit thn_ret thn_pan blk_normal blk_exit blk_ret blk_pan rnd_normal rnd_exit rnd_ret rnd_pan cal_ret cal_pan vops_nil vops_cons vop_plain vop_guard
  vopR_val vopR_skip vopR_call vopR_dfr vopR_pan pst_normal pst_ret pst_pan resV_one resV_two resV_three resV_four resV_nil ev_t ev_k evs_nil evs_cons put_some put_none start_cons0 start_succ
  aop_mov aop_new aop_box aop_build aop_mks aop_mksl0 aop_load aop_store aop_nilck aop_bin aop_un aop_cvi aop_s2b aop_b2s aop_mki aop_fad aop_fld aop_idxs aop_ext aop_len aop_lenc aop_app aop_slc_lo aop_slc_hi aop_slc_lohi aop_slc3 bnd_some aop_clr aop_pickV pickV_bool aop_pne aop_toU aop_frU aop_noEsc aop_sld aop_ustr aop_asrt aop_pan aop_call aop_dfr aop_max aop_iad O.isTmp binV intBin

end Go.Vs
namespace Go.Vs
open Go.RowKit

/-- Speaks of no block from k on. -/
inductive Low (k : Nat) : V → Prop
  | bool (b : Bool) : Low k (.bool b)
  | int (j : IntKind) (n : Int) : Low k (.int j n)
  | str (s : List UInt8) : Low k (.str s)
  | nptr : Low k .nptr
  | ptr (b o : Nat) (h : b < k) : Low k (.ptr b o)
  | fp (cs : List V) (off : Nat) (h : ∀ c ∈ cs, Low k c) : Low k (.fp cs off)
  | nsl : Low k .nsl
  | sl (b off len cap : Nat) (ex : Bool) (es : Nat) (ag : Bool) (h : b < k) : Low k (.sl b off len cap ex es ag)
  | lst (ex : Bool) (xs : List V) (h : ∀ c ∈ flat xs, Low k c) : Low k (.lst ex xs)
  | nmap : Low k .nmap
  | map (b : Nat) (h : b < k) : Low k (.map b)
  | nfn : Low k .nfn
  | fn (f : Fn) (a b : List V) (h1 : ∀ c ∈ a, Low k c) (h2 : ∀ c ∈ b, Low k c) : Low k (.fn f a b)
  | ifc (t : TypeId) (v : V) (h : Low k v) : Low k (.ifc t v)
  | nifc : Low k .nifc
  | agg (cs : List V) (h : ∀ c ∈ cs, Low k c) : Low k (.agg cs)
  | tup (cs : List V) (h : ∀ c ∈ cs, Low k c) : Low k (.tup cs)

/-- The same value, where the blocks from k on are frozen. -/
inductive Ice (h : Hp) (k : Nat) : V → V → Prop
  | low (v : V) (hl : Low k v) : Ice h k v v
  | sl (b off len cap : Nat) (ex : Bool) (es : Nat) (ag : Bool) (cs : List V) (ty : Option TypeId) (l l' : List V) (hb : k ≤ b) (hg : hget h b = some (.cells cs ty)) (hs : sub cs off (len * es) = some l) (hag : ag = false → es = 1)
      (hl : l'.length = l.length) (hi : ∀ (j : Nat) x y, l[j]? = some x → l'[j]? = some y → Ice h k x y) (h1 : ∀ x ∈ l', x.one = true) : Ice h k (.sl b off len cap ex es ag) (.lst false (chunk es ag len l'))
  | ptr (b o : Nat) (cs cs' : List V) (ty : Option TypeId) (hb : k ≤ b) (hg : hget h b = some (.cells cs ty)) (hl : cs'.length = cs.length) (hi : ∀ (j : Nat) x y, cs[j]? = some x → cs'[j]? = some y → Ice h k x y) : Ice h k (.ptr b o) (.fp cs' o)
  | agg (cs cs' : List V) (hl : cs'.length = cs.length) (hi : ∀ (j : Nat) x y, cs[j]? = some x → cs'[j]? = some y → Ice h k x y) : Ice h k (.agg cs) (.agg cs')
  | tup (cs cs' : List V) (hl : cs'.length = cs.length) (hi : ∀ (j : Nat) x y, cs[j]? = some x → cs'[j]? = some y → Ice h k x y) : Ice h k (.tup cs) (.tup cs')
  | ifc (t : TypeId) (x y : V) (hi : Ice h k x y) : Ice h k (.ifc t x) (.ifc t y)

open Classical in
noncomputable def Env.ices (E : Env) (w : World) (k : Nat) : Env where
  n := k
  mu β := if β < k then E.mu β else none
  old := E.old
  hid := E.hid
  frz b o := if ∃ β l, k ≤ β ∧ E.mu β = some l ∧ l.own b o then w.cell? ⟨b, o, none⟩ else E.frz b o

section
variable {w0 w : World} {E : Env} {h : Hp} {k : Nat}

theorem ices_frz (H : SR w0 E h w) {b o : Nat} {v : Value} (hf : E.frz b o = some v) : (E.ices w k).frz b o = some v := by
  simp only [Env.ices]
  split
  · exact H.frz b o v hf
  · exact hf

theorem ices_mu {β : Nat} {l : Loc} (hm : (E.ices w k).mu β = some l) : β < k ∧ E.mu β = some l := by
  simp only [Env.ices] at hm
  split at hm
  · exact ⟨‹_›, hm⟩
  · cases hm

theorem VR.low (H : SR w0 E h w) {x : V} {v : Value} (hv : VR E x v) (hl : Low k x) : VR (E.ices w k) x v := by
  induction hv with
  | bool b => exact .bool b
  | int k n => exact .int k n
  | str s => exact .str s
  | nptr => exact .nptr
  | ptr β o a hn h =>
    cases hl with
    | ptr _ _ hb => exact .ptr β o a hb fun l hm => h l (ices_mu hm).2
  | fp cs off b p vals h1 _ h3 ih =>
    cases hl with
    | fp _ _ hc => exact .fp cs off b p vals (fun j hj => ices_frz H (h1 j hj)) (fun j hj => ih j hj (hc _ (List.getElem_mem hj))) h3
  | nsl => exact .nsl
  | sl β off len cap ex es ag a cap' hn hle hc hex h =>
    cases hl with
    | sl _ _ _ _ _ _ _ hb => exact .sl β off len cap ex es ag a cap' hb hle hc hex fun l hm => h l (ices_mu hm).2
  | lst ex xs es a b p cap vals hc hex hes ha h1 _ h3 ih =>
    cases hl with
    | lst _ _ hcs => exact .lst ex xs es a b p cap vals hc hex hes ha (fun j hj => ices_frz H (h1 j hj)) (fun j hj => ih j hj (hcs _ (List.getElem_mem hj))) h3
  | nmap => exact .nmap
  | map β r hn h =>
    cases hl with
    | map _ hb => exact .map β r hb fun l hm => h l (ices_mu hm).2
  | fn f first cap first' cap' hl1 hl2 _ _ ih1 ih2 =>
    cases hl with
    | fn _ _ _ g1 g2 => exact .fn f first cap first' cap' hl1 hl2 (fun j x v hx hv => ih1 j x v hx hv (g1 _ (List.mem_of_getElem? hx))) (fun j x v hx hv => ih2 j x v hx hv (g2 _ (List.mem_of_getElem? hx)))
  | nfn => exact .nfn
  | ifc t x v _ ih =>
    cases hl with
    | ifc _ _ g => exact .ifc t x v (ih g)
  | nifc => exact .nifc
  | agg cs vs hle _ h1 ih =>
    cases hl with
    | agg _ g => exact .agg cs vs hle (fun j x v hx hv => ih j x v hx hv (g _ (List.mem_of_getElem? hx))) h1
  | tup cs vs hle _ ih =>
    cases hl with
    | tup _ g => exact .tup cs vs hle (fun j x v hx hv => ih j x v hx hv (g _ (List.mem_of_getElem? hx)))

/-- The heap is cut off. -/
theorem SR.ices (H : SR w0 E h w) (hk : k ≤ h.length) (hlow : ∀ β, β < k → ∀ b, hget h β = some b → match b with
    | .cells cs _ => ∀ c ∈ cs, Low k c
    | .map es => ∀ e ∈ es, Low k e.1 ∧ Low k e.2) : SR w0 (E.ices w k) (h.take k) w := by
  refine ⟨by simp [Env.ices, hk], H.below, fun b o v hf => ?_, fun β y hy => ?_, fun β l hm => ?_, fun β β' l l' b o h1 h2 o1 o2 => ?_, fun β l b o hm ho => ?_, fun b o ho => ⟨(H.old b o ho).1, ?_, fun β l hm => (H.old b o ho).2.2 β l (ices_mu hm).2⟩, fun b o ho => ⟨(H.hid b o ho).1, fun p => ?_, fun β l hm => (H.hid b o ho).2.2 β l (ices_mu hm).2⟩⟩
  · simp only [Env.ices] at hf
    split at hf
    · exact hf
    · exact H.frz b o v hf
  · have hβ : β < k := by
      rcases Nat.lt_or_ge β k with h' | h'
      · exact h'
      · rw [List.getElem?_eq_none (by simp; omega)] at hy; cases hy
    rw [List.getElem?_take_of_lt hβ] at hy
    obtain ⟨l, hm, hr⟩ := H.blk β y hy
    have hg : hget h β = some y := by unfold hget; rw [hy]; rfl
    have hlo := hlow β hβ y hg
    refine ⟨l, by simp only [Env.ices]; rw [if_pos hβ]; exact hm, ?_⟩
    cases y with
    | cells cs ty =>
      obtain ⟨g0, g1, g2, g3, g4⟩ := hr
      exact ⟨g0, g1, g2, g3, fun j hj => let ⟨a1, v, a2, a3, a4⟩ := g4 j hj; ⟨a1, v, a2, a3.low H (hlo _ (List.getElem_mem hj)), a4⟩⟩
    | map es =>
      obtain ⟨g1, g0, g2, ms, clock, g3, g4, g5⟩ := hr
      exact ⟨g1, g0, g2, ms, clock, g3, g4, fun j e m he hm => ⟨(g5 j e m he hm).1.low H (hlo _ (List.mem_of_getElem? he)).1, (g5 j e m he hm).2.low H (hlo _ (List.mem_of_getElem? he)).2⟩⟩
  · obtain ⟨hβ, hm⟩ := ices_mu hm
    obtain ⟨x, hx⟩ := H.non β l hm
    exact ⟨x, by rw [List.getElem?_take_of_lt hβ]; exact hx⟩
  · exact H.dis β β' l l' b o (ices_mu h1).2 (ices_mu h2).2 o1 o2
  · obtain ⟨hβ, hm⟩ := ices_mu hm
    simp only [Env.ices]
    rw [if_neg]
    · exact H.dfr β l b o hm ho
    · rintro ⟨β', l', h1, h2, h3⟩
      have := H.dis β β' l l' b o hm h2 ho h3
      omega
  · simp only [Env.ices]
    rw [if_neg]
    · exact (H.old b o ho).2.1
    · rintro ⟨β', l', h1, h2, h3⟩
      exact (H.old b o ho).2.2 β' l' h2 h3
  · simp only [Env.ices]
    rw [if_neg]
    · exact (H.hid b o ho).2.1 p
    · rintro ⟨β', l', h1, h2, h3⟩
      obtain ⟨x, hx⟩ := H.non β' l' h2
      obtain ⟨l2, hl2, hr⟩ := H.blk β' x hx
      rw [h2] at hl2; cases hl2
      exact (H.hid b o ho).2.2 β' l' h2 (hr.own _ _ h3).symm

theorem VR.ice (H : SR w0 E h w) {x y : V} (hi : Ice h k x y) : ∀ {v : Value}, VR E x v → VR (E.ices w k) y v := by
  induction hi with
  | low v hl => exact fun hv => hv.low H hl
  | sl b off len cap ex es ag cs ty l l' hb hg hs hag hl _ h1 ih =>
    intro v hv
    obtain ⟨lc, hm, hbr⟩ := H.live hg
    obtain ⟨vs, hrow⟩ := BR.row hbr hs
    obtain ⟨hle, hln, _⟩ := sub_spec hs
    cases hv with
    | sl _ _ _ _ _ _ _ a cap' hn hlc hcc hex hh =>
      obtain ⟨q1, q2⟩ := hh lc hm
      refine VR.lst_of (vs := vs) (b := lc.b) (p := lc.base + off) (by rw [hl, hln]) hag ⟨by rw [hl, hrow.1], fun j u hu => ?_⟩ (fun j u hu => ?_) (by omega) (by simp) a (fun hne => q1.resolve_left (by omega))
      · obtain ⟨c1, c2, c3⟩ := hrow.2 j u hu
        refine ⟨c2, fun y hy => ?_⟩
        have hj : j < l.length := by rw [← hl]; exact (List.getElem?_eq_some_iff.1 hy).1
        exact ih j _ y (List.getElem?_eq_getElem hj) hy (c3 _ (List.getElem?_eq_getElem hj))
      · obtain ⟨c1, c2, c3⟩ := hrow.2 j u hu
        have hj : j < l.length := by rw [← hrow.1]; exact (List.getElem?_eq_some_iff.1 hu).1
        have hown : lc.own lc.b (lc.base + off + j) := by
          have := (hbr.2.2.2.2 (off + j) (by omega)).1
          rwa [show lc.base + (off + j) = lc.base + off + j by omega] at this
        simp only [Env.ices]
        rw [if_pos ⟨b, lc, hb, hm, hown⟩]
        exact c1
  | ptr b o cs cs' ty hb hg hl _ ih =>
    intro v hv
    obtain ⟨lc, hm, hbr⟩ := H.live hg
    cases hv with
    | ptr _ _ a hn hh =>
      have ha := hh lc hm
      subst ha
      obtain ⟨f, hf⟩ := exists_vals (n := cs.length) (p := fun j v => w.cell? ⟨lc.b, lc.base + j, none⟩ = some v ∧ lc.own lc.b (lc.base + j) ∧ (∀ x, cs[j]? = some x → VR E x v) ∧ v.oneCell' = true) (fun j hj => by
        obtain ⟨h0, v, h1, h2, h3⟩ := hbr.2.2.2.2 j hj
        exact ⟨v, h1, h0, fun x hx => by rw [List.getElem?_eq_getElem hj] at hx; cases hx; exact h2, h3⟩)
      refine .fp cs' o lc.b lc.base f (fun j hj => ?_) (fun j hj => ?_) (fun j hj => ?_)
      · obtain ⟨a1, a2, a3, a4⟩ := hf j (by omega)
        simp only [Env.ices]
        rw [if_pos ⟨b, lc, hb, hm, a2⟩]
        exact a1
      · obtain ⟨a1, a2, a3, a4⟩ := hf j (by omega)
        have hj' : j < cs.length := by omega
        exact ih j _ _ (List.getElem?_eq_getElem hj') (List.getElem?_eq_getElem hj) (a3 _ (List.getElem?_eq_getElem hj'))
      · exact (hf j (by omega)).2.2.2
  | agg cs cs' hl _ ih =>
    intro v hv
    cases hv with
    | agg _ vs hle hc h1 =>
      refine .agg cs' vs (by omega) (fun j y u hy hu => ?_) h1
      have hj : j < cs.length := by have := (List.getElem?_eq_some_iff.1 hy).1; omega
      exact ih j _ y (List.getElem?_eq_getElem hj) hy (hc j _ u (List.getElem?_eq_getElem hj) hu)
  | tup cs cs' hl _ ih =>
    intro v hv
    cases hv with
    | tup _ vs hle hc =>
      refine .tup cs' vs (by omega) (fun j y u hy hu => ?_)
      have hj : j < cs.length := by have := (List.getElem?_eq_some_iff.1 hy).1; omega
      exact ih j _ y (List.getElem?_eq_getElem hj) hy (hc j _ u (List.getElem?_eq_getElem hj) hu)
  | ifc t x y _ ih =>
    intro v hv
    cases hv with
    | ifc _ _ u hu => exact .ifc t y u (ih hu)

def IceR (h : Hp) (k : Nat) : Res → Res → Prop
  | .ret x, .ret y => Ice h k x y
  | .pan x, .pan y => Ice h k x y
  | _, _ => False

/-- What the blocks below k hold speaks of none from k on. -/
def LowH (k : Nat) (h : Hp) : Prop := ∀ β, β < k → ∀ b, hget h β = some b → match b with
    | .cells cs _ => ∀ c ∈ cs, Low k c
    | .map es => ∀ e ∈ es, Low k e.1 ∧ Low k e.2

theorem LowH.zero (h : Hp) : LowH 0 h := fun β hβ => absurd hβ (Nat.not_lt_zero β)

theorem Le.ices {E0 : Env} {h0 : Hp} (H0 : h0.length = E0.n) (hE : Le E0 E) (H : SR w0 E h w) : Le E0 (E.ices w h0.length) :=
  ⟨by simp [Env.ices, H0], fun β l hb hm => hE.mu β l hb (ices_mu hm).2, fun b o v hf => ices_frz H (hE.frz b o v hf), hE.old, hE.hid⟩

/-- A call whose own blocks are told no more behind it. -/
theorem ACalls.ice {x : X} {f : FuncId} {args : List V} {h : Hp} {R R' : Res → Hp → Prop} (H : ACalls x f args h R)
    (hR : ∀ r h', R r h' → h.length ≤ h'.length ∧ LowH h.length h' ∧ ∃ r', IceR h' h.length r r' ∧ R' r' (h'.take h.length)) : ACalls x f args h R' := by
  refine ⟨H.1, fun w0 E w vs hs hg hv => (H.2 w0 E w vs hs hg hv).mono ?_⟩
  rintro e w' ⟨E', h', r, hE, hsr, hr, hRr⟩
  obtain ⟨hk, hlow, r', hir, hR'⟩ := hR r h' hRr
  refine ⟨E'.ices w' h.length, h'.take h.length, r', Le.ices hs.len hE hsr, hsr.ices hk hlow, ?_, hR'⟩
  cases r with
  | ret a =>
    cases r' with
    | ret b =>
      cases e with
      | returned u => exact VR.ice hsr hir hr
      | panicked l => exact hr.elim
      | outgrown => exact hr.elim
    | pan b => exact hir.elim
  | pan a =>
    cases r' with
    | ret b => exact hir.elim
    | pan b =>
      cases e with
      | returned u => exact hr.elim
      | outgrown => exact hr.elim
      | panicked l =>
        obtain ⟨v, hv, rfl⟩ := hr
        exact ⟨v, VR.ice hsr hir hv, rfl⟩
end
end Go.Vs
namespace Go.Vs
open Go.RowKit

theorem setAll_eq : ∀ (xs cs : List V) (o : Nat), o + xs.length ≤ cs.length → setAll cs o xs = cs.take o ++ xs ++ cs.drop (o + xs.length)
  | [], cs, o, _ => by simp [setAll]
  | x :: r, cs, o, h => by
    simp only [List.length_cons] at h
    rw [setAll, setAll_eq r _ _ (by simp; omega)]
    have h1 : (cs.set o x).take (o + 1) = cs.take o ++ [x] := by
      rw [List.take_set, List.take_add_one, List.getElem?_eq_getElem (by omega)]
      simp only [Option.toList_some]
      rw [List.set_append_right _ _ (by simp; omega)]
      have : o - (List.take o cs).length = 0 := by simp; omega
      rw [this]; rfl
    have h2 : (cs.set o x).drop (o + 1 + r.length) = cs.drop (o + (r.length + 1)) := by
      rw [List.drop_set_of_lt (by omega)]
      congr 1; omega
    rw [h1, h2]
    simp

/-- Nothing of what lies below k has turned. -/
def Frm (k : Nat) (h h' : Hp) : Prop := k ≤ h'.length ∧ h'.take k = h.take k
theorem Frm.refl {k : Nat} {h : Hp} (hk : k ≤ h.length) : Frm k h h := ⟨hk, rfl⟩
theorem Frm.trans {k : Nat} {h h' h'' : Hp} (a : Frm k h h') (b : Frm k h' h'') : Frm k h h'' := ⟨b.1, b.2.trans a.2⟩
theorem Frm.append {k : Nat} {h : Hp} (hk : k ≤ h.length) (l : Hp) : Frm k h (h ++ l) := ⟨by simp; omega, by rw [List.take_append_of_le_length hk]⟩
theorem Frm.set {k : Nat} {h : Hp} (hk : k ≤ h.length) {b : Nat} (hb : k ≤ b) (x : Option Blk) : Frm k h (h.set b x) := ⟨by simp; exact hk, by rw [List.take_set_of_le hb]⟩

/-- Empty, or a row of the call's own, from its first cell on. -/
def Own (h : Hp) (k es : Nat) (ag : Bool) (v : V) (n : Nat) (ys : List V) : Prop :=
  ys.length = n * es ∧ ((v = .nsl ∧ n = 0) ∨ (v = .lst true [] ∧ n = 0) ∨
    ∃ b cap ex rest ty, v = .sl b 0 n cap ex es ag ∧ k ≤ b ∧ hget h b = some (.cells (ys ++ rest) ty) ∧ n ≤ cap ∧ cap * es ≤ (ys ++ rest).length)

theorem Own.sl {h : Hp} {k es : Nat} {ag : Bool} {v : V} {n : Nat} {ys : List V} (H : Own h k es ag v n ys) : Sl h es v n ys := by
  obtain ⟨hl, ⟨rfl, rfl⟩ | ⟨rfl, rfl⟩ | ⟨b, cap, ex, rest, ty, rfl, hb, hg, hc, hce⟩⟩ := H
  · have : ys = [] := List.eq_nil_of_length_eq_zero (by omega)
    subst this; exact ⟨rfl, rfl, trivial⟩
  · have : ys = [] := List.eq_nil_of_length_eq_zero (by omega)
    subst this; exact ⟨by simp [src, flat], rfl, trivial⟩
  · refine ⟨?_, rfl, hc⟩
    simp [src, rd, hg, sub, ← hl]

theorem hget_lt {h : Hp} {b : Nat} {x : Blk} (hg : hget h b = some x) : b < h.length := by
  have := hget_spec hg
  exact (List.getElem?_eq_some_iff.1 this).1

theorem hget_new (h : Hp) (x : Option Blk) : hget (h ++ [x]) h.length = x := by
  unfold hget; rw [List.getElem?_append_right (Nat.le_refl _)]; simp

theorem hget_old {h : Hp} {b : Nat} (hb : b < h.length) (l : Hp) : hget (h ++ l) b = hget h b := by
  unfold hget; rw [List.getElem?_append_left hb]

theorem hget_set {h : Hp} {b : Nat} (hb : b < h.length) (x : Option Blk) : hget (h.set b x) b = x := by
  unfold hget; rw [List.getElem?_set_self hb]; simp

theorem hget_set_ne {h : Hp} {b c : Nat} (hb : b ≠ c) (x : Option Blk) : hget (h.set b x) c = hget h c := by
  unfold hget; rw [List.getElem?_set_ne hb]

/-- A new row. -/
theorem Own.new {h : Hp} {k es : Nat} {ag : Bool} {n : Nat} {ys : List V} (hk : k ≤ h.length) (hl : ys.length = n * es) (ex : Bool) (ty : Option TypeId) : Own (h ++ [some (.cells ys ty)]) k es ag (.sl h.length 0 n n ex es ag) n ys :=
  ⟨hl, .inr (.inr ⟨h.length, n, ex, [], ty, rfl, hk, by rw [hget_new]; simp, Nat.le_refl _, by simp [hl]⟩)⟩

theorem wr_own {h : Hp} {b : Nat} {cs : List V} {ty : Option TypeId} (hg : hget h b = some (.cells cs ty)) {o : Nat} {xs : List V} (hle : o + xs.length ≤ cs.length) : wr h b o xs = some (h.set b (some (.cells (cs.take o ++ xs ++ cs.drop (o + xs.length)) ty))) := by
  simp only [wr, hg, if_pos hle, setAll_eq _ _ _ hle]

/-- Blocks that have nothing to do with a value. -/
def V.blk : V → Option Nat
  | .sl b _ _ _ _ _ _ => some b
  | _ => none

theorem Own.app {h : Hp} {k es bt : Nat} {ag : Bool} {ty : Option TypeId} {v a : V} {n m : Nat} {ys zs : List V} (hk : k ≤ h.length) (H : Own h k es ag v n ys) (ha : src h es a = some (m, zs)) (hz : zs.length = m * es) (hr : (n + m) * bt ≤ room) :
    ∃ v' h', appR h es bt ag ty v a = some (.val v' h') ∧ Own h' k es ag v' (n + m) (ys ++ zs) ∧ Frm k h h' ∧ (∀ c, c < h.length → v.blk ≠ some c → hget h' c = hget h c) ∧ (v'.blk = v.blk ∨ v'.blk = some h.length) ∧ h.length ≤ h'.length := by
  have hyz : (ys ++ zs).length = (n + m) * es := by rw [List.length_append, H.1, hz, Nat.add_mul]
  unfold appR
  rw [ha]
  obtain ⟨hl, ⟨rfl, rfl⟩ | ⟨rfl, rfl⟩ | ⟨b, cap, ex, rest, ty', rfl, hb, hg, hc, hce⟩⟩ := H
  · have hy0 : ys = [] := List.eq_nil_of_length_eq_zero (by omega)
    subst hy0
    simp only [appV]
    by_cases hm : m = 0
    · subst hm
      exact ⟨_, _, by rw [if_pos rfl], ⟨hyz, .inl ⟨rfl, rfl⟩⟩, Frm.refl hk, fun _ _ _ => rfl, .inl rfl, Nat.le_refl _⟩
    · rw [if_neg hm, if_pos (by simpa using hr)]
      refine ⟨_, _, rfl, ?_, Frm.append hk _, fun c hc _ => hget_old hc _, .inr rfl, by simp⟩
      simp only [Nat.zero_add, List.nil_append]
      exact Own.new hk hz false ty
  · have hy0 : ys = [] := List.eq_nil_of_length_eq_zero (by omega)
    subst hy0
    simp only [appV]
    by_cases hm : m = 0
    · subst hm
      exact ⟨_, _, by rw [if_pos rfl], ⟨hyz, .inr (.inl ⟨rfl, rfl⟩)⟩, Frm.refl hk, fun _ _ _ => rfl, .inl rfl, Nat.le_refl _⟩
    · rw [if_neg hm, if_pos ⟨trivial, by simp, by simpa using hr⟩]
      refine ⟨_, _, rfl, ?_, Frm.append hk _, fun c hc _ => hget_old hc _, .inr rfl, by simp⟩
      simp only [Nat.zero_add, List.nil_append, List.length_nil, flat, List.flatMap_nil]
      exact Own.new hk hz false ty
  · have hbl := hget_lt hg
    simp only [appV]
    rw [if_neg (by simp)]
    by_cases hin : n + m ≤ cap
    · rw [if_pos hin, Nat.zero_add]
      have hle : n * es + zs.length ≤ (ys ++ rest).length := by
        have : (n + m) * es ≤ cap * es := Nat.mul_le_mul_right _ hin
        rw [Nat.add_mul] at this; omega
      rw [wr_own hg hle]
      refine ⟨_, _, rfl, ⟨hyz, .inr (.inr ⟨b, cap, ex, (ys ++ rest).drop (n * es + zs.length), ty', rfl, hb, ?_, hin, ?_⟩)⟩, Frm.set hk hb _, fun c _ hne => hget_set_ne (fun e => hne (by rw [e]; rfl)) _, .inl rfl, by simp⟩
      · rw [hget_set hbl]
        simp [← hl]
      · rw [List.length_append, List.length_drop, hyz, Nat.add_mul, hz]
        rw [hz] at hle
        omega
    · rw [if_neg hin, if_pos hr]
      have hrd : rd h (.ptr b 0) (n * es) = some ys := by simp [rd, hg, sub, ← hl]
      rw [hrd]
      have hlen : (if ex then h else h.set b none).length = h.length := by cases ex <;> simp
      refine ⟨_, _, rfl, Own.new (by rw [hlen]; exact hk) hyz false _, ?_, fun c hc hne => ?_, .inr (by simp [V.blk, hlen]), by simp [hlen]⟩
      · cases ex with
        | true => exact Frm.append hk _
        | false => exact (Frm.set hk hb none).trans (Frm.append (by simp; exact hk) _)
      · rw [hget_old (by rw [hlen]; exact hc)]
        cases ex with
        | true => rfl
        | false => exact hget_set_ne (fun e => hne (by rw [e]; rfl)) _

/-- What reads the same in whatever heap. -/
def Fz (es : Nat) (v : V) (n : Nat) (ys : List V) : Prop := ∀ h, Sl h es v n ys

theorem Fz.low {es : Nat} {v : V} {n : Nat} {ys : List V} (H : Fz es v n ys) (hl : ∀ y ∈ ys, Low 0 y) : Low 0 v := by
  have := H []
  rcases this.shape with ⟨rfl, _, _⟩ | ⟨b, off, cap, ex, ag, cs, ty, rfl, hg, _, _⟩ | ⟨ex, xs, rfl, rfl, rfl, h3⟩
  · exact .nsl
  · simp [hget] at hg
  · exact .lst _ _ hl

theorem Low.mono {k k' : Nat} (hk : k ≤ k') {v : V} (h : Low k v) : Low k' v := by
  induction h with
  | bool b => exact .bool b
  | int j n => exact .int j n
  | str s => exact .str s
  | nptr => exact .nptr
  | ptr b o h => exact .ptr b o (by omega)
  | fp cs off _ ih => exact .fp cs off ih
  | nsl => exact .nsl
  | sl b off len cap ex es ag h => exact .sl b off len cap ex es ag (by omega)
  | lst ex xs _ ih => exact .lst ex xs ih
  | nmap => exact .nmap
  | map b h => exact .map b (by omega)
  | nfn => exact .nfn
  | fn f a b _ _ ih1 ih2 => exact .fn f a b ih1 ih2
  | ifc t v _ ih => exact .ifc t v ih
  | nifc => exact .nifc
  | agg cs _ ih => exact .agg cs ih
  | tup cs _ ih => exact .tup cs ih

theorem flat_chunk {es : Nat} {ag : Bool} {n : Nat} {l : List V} (hl : l.length = n * es) (hag : ag = false → es = 1) (h1 : ∀ x ∈ l, x.one = true) (h : Hp) : Sl h es (.lst false (chunk es ag n l)) n l := by
  obtain ⟨c1, c2, c3⟩ := chunk_spec es ag n l hl hag h1
  refine ⟨?_, rfl, trivial⟩
  simp only [src]
  rw [if_pos c3, c1, c2]

/-- An own slice of plain cells, frozen. -/
theorem Own.ice {h : Hp} {k es : Nat} {ag : Bool} {v : V} {n : Nat} {ys : List V} (H : Own h k es ag v n ys) (hag : ag = false → es = 1) (h1 : ∀ y ∈ ys, y.one = true) (hlow : ∀ y ∈ ys, Low 0 y) : ∃ v', Ice h k v v' ∧ Fz es v' n ys := by
  obtain ⟨hl, ⟨rfl, rfl⟩ | ⟨rfl, rfl⟩ | ⟨b, cap, ex, rest, ty, rfl, hb, hg, hc, hce⟩⟩ := H
  · have : ys = [] := List.eq_nil_of_length_eq_zero (by omega)
    subst this
    exact ⟨_, .low _ .nsl, fun h => ⟨rfl, rfl, trivial⟩⟩
  · have : ys = [] := List.eq_nil_of_length_eq_zero (by omega)
    subst this
    exact ⟨_, .low _ (.lst _ _ (by simp [flat])), fun h => ⟨by simp [src, flat], rfl, trivial⟩⟩
  · refine ⟨.lst false (chunk es ag n ys), .sl b 0 n cap ex es ag _ ty ys ys hb hg (by simp [sub, ← hl]) hag rfl (fun j x y hx hy => ?_) h1, fun h => flat_chunk hl hag h1 h⟩
    rw [hx] at hy; cases hy
    exact .low _ ((hlow _ (List.mem_of_getElem? hx)).mono (Nat.zero_le _))


theorem Fz.take {es : Nat} {v : V} {n : Nat} {ys : List V} (H : Fz es v n ys) {i : Nat} (hi : i ≤ n) : ∃ v', slcV es v 0 (some i) none = some v' ∧ Fz es v' i (ys.take (i * es)) := by
  rcases (H []).shape with ⟨rfl, rfl, rfl⟩ | ⟨b, off, cap, ex, ag, cs, ty, rfl, hg, _, _⟩ | ⟨ex, xs, rfl, rfl, rfl, h3⟩
  · have : i = 0 := by omega
    subst this
    exact ⟨.nsl, by simp [slcV], fun h => ⟨by simp [src], rfl, trivial⟩⟩
  · simp [hget] at hg
  · refine ⟨.lst (ex && i == xs.length) (xs.take i), by simp only [slcV, Option.getD_some]; rw [if_pos ⟨by omega, hi, h3⟩]; simp [upTo], fun h => ⟨?_, rfl, trivial⟩⟩
    have h4 : ∀ x ∈ xs.take i, x.cells.length = es := fun x hx => h3 x (List.mem_of_mem_take hx)
    have e : flat (xs.take i) = (flat xs).take (i * es) := by
      have hs : flat xs = flat (xs.take i) ++ flat (xs.drop i) := by unfold flat; rw [← List.flatMap_append, List.take_append_drop]
      have hl := flat_length h4
      rw [List.length_take, Nat.min_eq_left hi] at hl
      rw [hs, ← hl, List.take_left']; rfl
    simp only [src]
    rw [if_pos h4, e, List.length_take, Nat.min_eq_left hi]

theorem Fz.drop {es : Nat} {v : V} {n : Nat} {ys : List V} (H : Fz es v n ys) {i : Nat} (hi : i ≤ n) : ∃ v', slcV es v i none none = some v' ∧ Fz es v' (n - i) (ys.drop (i * es)) := by
  rcases (H []).shape with ⟨rfl, rfl, rfl⟩ | ⟨b, off, cap, ex, ag, cs, ty, rfl, hg, _, _⟩ | ⟨ex, xs, rfl, rfl, rfl, h3⟩
  · have : i = 0 := by omega
    subst this
    exact ⟨.nsl, by simp [slcV], fun h => ⟨by simp [src], rfl, trivial⟩⟩
  · simp [hget] at hg
  · refine ⟨.lst ex (xs.drop i), by simp only [slcV, Option.getD_none]; rw [if_pos ⟨hi, Nat.le_refl _, h3⟩]; simp [upTo], fun h => ⟨?_, rfl, trivial⟩⟩
    have h4 : ∀ x ∈ xs.drop i, x.cells.length = es := fun x hx => h3 x (List.mem_of_mem_drop hx)
    have h5 : ∀ x ∈ xs.take i, x.cells.length = es := fun x hx => h3 x (List.mem_of_mem_take hx)
    have e : flat (xs.drop i) = (flat xs).drop (i * es) := by
      have hs : flat xs = flat (xs.take i) ++ flat (xs.drop i) := by unfold flat; rw [← List.flatMap_append, List.take_append_drop]
      have hl := flat_length h5
      rw [List.length_take, Nat.min_eq_left hi] at hl
      rw [hs, ← hl, List.drop_left']; rfl
    simp only [src]
    rw [if_pos h4, e, List.length_drop]

/-! ### A row of bytes whose type is known: strings.Builder's buffer -/
def OwnT (h : Hp) (k : Nat) (T : TypeId) (v : V) (n : Nat) (ys : List V) : Prop :=
  ys.length = n ∧ ((v = .nsl ∧ n = 0) ∨
    ∃ b cap ex rest, v = .sl b 0 n cap ex 1 false ∧ 0 < n ∧ k ≤ b ∧ hget h b = some (.cells (ys ++ rest) (some T)) ∧ n ≤ cap ∧ cap ≤ (ys ++ rest).length)

theorem OwnT.sl {h : Hp} {k : Nat} {T : TypeId} {v : V} {n : Nat} {ys : List V} (H : OwnT h k T v n ys) : Sl h 1 v n ys := by
  obtain ⟨hl, ⟨rfl, rfl⟩ | ⟨b, cap, ex, rest, rfl, hn0, hb, hg, hc, hce⟩⟩ := H
  · have : ys = [] := List.eq_nil_of_length_eq_zero (by omega)
    subst this; exact ⟨rfl, rfl, trivial⟩
  · refine ⟨?_, rfl, hc⟩
    simp [src, rd, hg, sub, ← hl]

theorem OwnT.plain {h : Hp} {k : Nat} {T : TypeId} {v : V} {n : Nat} {ys : List V} (H : OwnT h k T v n ys) : v.cells = [v] ∧ v.one = true := by
  obtain ⟨hl, ⟨rfl, rfl⟩ | ⟨b, cap, ex, rest, rfl, hn0, hb, hg, hc, hce⟩⟩ := H <;> exact ⟨rfl, rfl⟩

theorem OwnT.keep {h h' : Hp} {k : Nat} {T : TypeId} {v : V} {n : Nat} {ys : List V} (H : OwnT h k T v n ys) (hh : ∀ b, v.blk = some b → hget h' b = hget h b) : OwnT h' k T v n ys := by
  obtain ⟨hl, ⟨rfl, rfl⟩ | ⟨b, cap, ex, rest, rfl, hn0, hb, hg, hc, hce⟩⟩ := H
  · exact ⟨hl, .inl ⟨rfl, rfl⟩⟩
  · exact ⟨hl, .inr ⟨b, cap, ex, rest, rfl, hn0, hb, by rw [hh b rfl]; exact hg, hc, hce⟩⟩

theorem OwnT.app {h : Hp} {k : Nat} {T : TypeId} {v a : V} {n m : Nat} {ys zs : List V} (hk : k ≤ h.length) (H : OwnT h k T v n ys) (ha : src h 1 a = some (m, zs)) (hz : zs.length = m) (hr : n + m ≤ room) :
    ∃ v' h', appR h 1 1 false (some T) v a = some (.val v' h') ∧ OwnT h' k T v' (n + m) (ys ++ zs) ∧ Frm k h h' ∧ (∀ c, c < h.length → v.blk ≠ some c → hget h' c = hget h c) ∧ (v'.blk = v.blk ∨ v'.blk = some h.length) ∧ h.length ≤ h'.length := by
  have hyz : (ys ++ zs).length = n + m := by rw [List.length_append, H.1, hz]
  unfold appR
  rw [ha]
  obtain ⟨hl, ⟨rfl, rfl⟩ | ⟨b, cap, ex, rest, rfl, hn0, hb, hg, hc, hce⟩⟩ := H
  · have hy0 : ys = [] := List.eq_nil_of_length_eq_zero (by omega)
    subst hy0
    simp only [appV]
    by_cases hm : m = 0
    · subst hm
      exact ⟨_, _, by rw [if_pos rfl], ⟨hyz, .inl ⟨rfl, rfl⟩⟩, Frm.refl hk, fun _ _ _ => rfl, .inl rfl, Nat.le_refl _⟩
    · rw [if_neg hm, if_pos (by omega)]
      refine ⟨_, _, rfl, ?_, Frm.append hk _, fun c hc _ => hget_old hc _, .inr rfl, by simp⟩
      exact ⟨hyz, .inr ⟨h.length, m, false, [], by simp, by omega, hk, by rw [hget_new]; simp, by omega, by simp [hz]⟩⟩
  · have hbl := hget_lt hg
    simp only [appV]
    rw [if_neg (by simp)]
    by_cases hin : n + m ≤ cap
    · rw [if_pos hin, Nat.zero_add, Nat.mul_one]
      have hle : n + zs.length ≤ (ys ++ rest).length := by omega
      rw [wr_own hg hle]
      refine ⟨_, _, rfl, ⟨hyz, .inr ⟨b, cap, ex, (ys ++ rest).drop (n + zs.length), rfl, by omega, hb, ?_, hin, ?_⟩⟩, Frm.set hk hb _, fun c _ hne => hget_set_ne (fun e => hne (by rw [e]; rfl)) _, .inl rfl, by simp⟩
      · rw [hget_set hbl]
        simp [← hl]
      · rw [List.length_append, List.length_drop, hyz, hz]
        rw [hz] at hle
        omega
    · rw [if_neg hin, if_pos (by omega), Nat.mul_one]
      have hrd : rd h (.ptr b 0) n = some ys := by simp [rd, hg, sub, ← hl]
      rw [hrd]
      have hty : appTy h ex b 0 (some T) = some T := by
        unfold appTy
        cases ex
        · simp [bty, hg]
        · rfl
      have hlen : (if ex then h else h.set b none).length = h.length := by cases ex <;> simp
      refine ⟨_, _, rfl, ?_, ?_, fun c hc hne => ?_, .inr (by simp [V.blk, hlen]), by simp [hlen]⟩
      · rw [hty]
        exact ⟨hyz, .inr ⟨(if ex then h else h.set b none).length, n + m, false, [], rfl, by omega, by rw [hlen]; exact hk, by rw [hget_new]; simp, Nat.le_refl _, by simp [hl, hz]⟩⟩
      · cases ex with
        | true => exact Frm.append hk _
        | false => exact (Frm.set hk hb none).trans (Frm.append (by simp; exact hk) _)
      · rw [hget_old (by rw [hlen]; exact hc)]
        cases ex with
        | true => rfl
        | false => exact hget_set_ne (fun e => hne (by rw [e]; rfl)) _

/-- A strings.Builder (T) in a block of the call's own, and its buffer (of bytes: U). -/
def Bld (h : Hp) (k : Nat) (T U : TypeId) (β n : Nat) (ys : List V) : Prop :=
  ∃ a buf, k ≤ β ∧ hget h β = some (.cells [a, buf] (some T)) ∧ (a = .nptr ∨ a = .ptr β 0) ∧ OwnT h k U buf n ys ∧ buf.blk ≠ some β ∧ (∀ b, buf.blk = some b → b < h.length)

def bytesV (s : List UInt8) : List V := s.map fun c => .int .u8 c.toNat
theorem bytesV_length (s : List UInt8) : (bytesV s).length = s.length := by simp [bytesV]
theorem bytesV_append (a b : List UInt8) : bytesV (a ++ b) = bytesV a ++ bytesV b := by simp [bytesV]
theorem bytesV_back (s : List UInt8) (f : V → UInt8) (hf : ∀ k n, f (.int k n) = UInt8.ofNat n.toNat) : (bytesV s).map f = s := by
  unfold bytesV
  rw [List.map_map]
  conv => rhs; rw [← List.map_id s]
  refine List.map_congr_left fun c _ => ?_
  simp [hf]
theorem bytesV_isByte (s : List UInt8) : ∀ c ∈ bytesV s, c.isByte = true := by
  intro c hc; obtain ⟨b, _, rfl⟩ := List.mem_map.1 hc; rfl
theorem bytesV_one (s : List UInt8) : ∀ c ∈ bytesV s, c.one = true := by
  intro c hc; obtain ⟨b, _, rfl⟩ := List.mem_map.1 hc; rfl
theorem bytesV_low (s : List UInt8) : ∀ c ∈ bytesV s, Low 0 c := by
  intro c hc; obtain ⟨b, _, rfl⟩ := List.mem_map.1 hc; exact .int _ _


theorem LowH.frm {k : Nat} {h h' : Hp} (H : LowH k h) (hf : Frm k h h') : LowH k h' := by
  intro β hβ b hg
  refine H β hβ b ?_
  have h1 : hget (h'.take k) β = hget (h.take k) β := by rw [hf.2]
  unfold hget at h1 hg ⊢
  rw [List.getElem?_take_of_lt hβ, List.getElem?_take_of_lt hβ] at h1
  rw [← h1]; exact hg

def Res.low : Res → Prop
  | .ret v => Low 0 v
  | .pan v => Low 0 v

/-- Behind a call that answers plain values the heap is as it was. -/
theorem ACalls.cut {x : X} {f : FuncId} {args : List V} {h : Hp} {P : Res → Prop} (H : ACalls x f args h fun r h' => P r ∧ Frm h.length h h') (hlow : LowH h.length h) (hr : ∀ r, P r → r.low) : ACalls x f args h fun r h' => P r ∧ h' = h := by
  refine H.ice fun r h' ⟨hp, hf⟩ => ⟨hf.1, hlow.frm hf, r, ?_, hp, by rw [hf.2]; simp⟩
  have := hr r hp
  cases r with
  | ret v => exact .low v (Low.mono (Nat.zero_le _) this)
  | pan v => exact .low v (Low.mono (Nat.zero_le _) this)

theorem low_str2 (s : List UInt8) (k : IntKind) (n : Int) : Low 0 (.tup [.str s, .int k n]) := .tup _ (by simp; exact ⟨.str s, .int k n⟩)

end Go.Vs
namespace Go.Vs
open Go.RowKit

theorem VR.lift {E E' : Env} {x : V} {v : Value} (hv : VR E x v) (hl : Low 0 x) (hf : ∀ b o v, E.frz b o = some v → E'.frz b o = some v) : VR E' x v := by
  induction hv with
  | bool b => exact .bool b
  | int k n => exact .int k n
  | str s => exact .str s
  | nptr => exact .nptr
  | ptr β o a hn h =>
    cases hl with
    | ptr _ _ hb => omega
  | fp cs off b p vals h1 _ h3 ih =>
    cases hl with
    | fp _ _ hc => exact .fp cs off b p vals (fun j hj => hf _ _ _ (h1 j hj)) (fun j hj => ih j hj (hc _ (List.getElem_mem hj))) h3
  | nsl => exact .nsl
  | sl β off len cap ex es ag a cap' hn hle hc hex h =>
    cases hl with
    | sl _ _ _ _ _ _ _ hb => omega
  | lst ex xs es a b p cap vals hc hex hes ha h1 _ h3 ih =>
    cases hl with
    | lst _ _ hcs => exact .lst ex xs es a b p cap vals hc hex hes ha (fun j hj => hf _ _ _ (h1 j hj)) (fun j hj => ih j hj (hcs _ (List.getElem_mem hj))) h3
  | nmap => exact .nmap
  | map β r hn h =>
    cases hl with
    | map _ hb => omega
  | fn f first cap first' cap' hl1 hl2 _ _ ih1 ih2 =>
    cases hl with
    | fn _ _ _ g1 g2 => exact .fn f first cap first' cap' hl1 hl2 (fun j x v hx hv => ih1 j x v hx hv (g1 _ (List.mem_of_getElem? hx))) (fun j x v hx hv => ih2 j x v hx hv (g2 _ (List.mem_of_getElem? hx)))
  | nfn => exact .nfn
  | ifc t x v _ ih =>
    cases hl with
    | ifc _ _ g => exact .ifc t x v (ih g)
  | nifc => exact .nifc
  | agg cs vs hle _ h1 ih =>
    cases hl with
    | agg _ g => exact .agg cs vs hle (fun j x v hx hv => ih j x v hx hv (g _ (List.mem_of_getElem? hx))) h1
  | tup cs vs hle _ ih =>
    cases hl with
    | tup _ g => exact .tup cs vs hle (fun j x v hx hv => ih j x v hx hv (g _ (List.mem_of_getElem? hx)))

theorem VR.low0 {E : Env} {x : V} {v : Value} (hv : VR E x v) (h0 : E.n = 0) : Low 0 x := by
  induction hv with
  | bool b => exact .bool b
  | int k n => exact .int k n
  | str s => exact .str s
  | nptr => exact .nptr
  | ptr β o a hn h => omega
  | fp cs off b p vals h1 _ h3 ih =>
    refine .fp cs off fun c hc => ?_
    obtain ⟨j, hj, rfl⟩ := List.getElem_of_mem hc
    exact ih j hj
  | nsl => exact .nsl
  | sl β off len cap ex es ag a cap' hn hle hc hex h => omega
  | lst ex xs es a b p cap vals hc hex hes ha h1 _ h3 ih =>
    refine .lst ex xs fun c hc => ?_
    obtain ⟨j, hj, rfl⟩ := List.getElem_of_mem hc
    exact ih j hj
  | nmap => exact .nmap
  | map β r hn h => omega
  | fn f first cap first' cap' hl1 hl2 _ _ ih1 ih2 =>
    refine .fn f first cap (fun c hc => ?_) (fun c hc => ?_)
    · obtain ⟨j, hj, rfl⟩ := List.getElem_of_mem hc
      exact ih1 j _ _ (List.getElem?_eq_getElem hj) (Array.getElem?_eq_getElem (by omega))
    · obtain ⟨j, hj, rfl⟩ := List.getElem_of_mem hc
      exact ih2 j _ _ (List.getElem?_eq_getElem hj) (Array.getElem?_eq_getElem (by omega))
  | nfn => exact .nfn
  | ifc t x v _ ih => exact .ifc t x ih
  | nifc => exact .nifc
  | agg cs vs hle _ h1 ih =>
    refine .agg cs fun c hc => ?_
    obtain ⟨j, hj, rfl⟩ := List.getElem_of_mem hc
    exact ih j _ _ (List.getElem?_eq_getElem hj) (Array.getElem?_eq_getElem (by omega))
  | tup cs vs hle _ ih =>
    refine .tup cs fun c hc => ?_
    obtain ⟨j, hj, rfl⟩ := List.getElem_of_mem hc
    exact ih j _ _ (List.getElem?_eq_getElem hj) (Array.getElem?_eq_getElem (by omega))

/-- The package variables hold plain data. -/
def XLow (x : X) : Prop := ∀ g, ∀ c ∈ x.G g, Low 0 c

/-- A call on plain data. -/
def PCalls (x : X) (f : FuncId) (args : List V) (P : Res → Prop) : Prop := ACalls x f args [] fun r h' => P r ∧ h' = []

theorem PCalls.of {x : X} {f : FuncId} {args : List V} {P : Res → Prop} (H : ACalls x f args [] fun r _ => P r) (hr : ∀ r, P r → r.low) : PCalls x f args P :=
  ACalls.cut (h := []) (H.mono fun r h' hp => ⟨hp, Nat.zero_le _, rfl⟩) (LowH.zero _) hr

theorem PCalls.at {x : X} (hx : XLow x) {f : FuncId} {args : List V} {P : Res → Prop} (H : PCalls x f args P) (ha : ∀ a ∈ args, Low 0 a) (h : Hp) : ACalls x f args h fun r h' => P r ∧ h' = h := by
  refine ⟨H.1, fun w0 E w vs hs hg hv => ?_⟩
  let E1 : Env := { n := 0, mu := fun _ => none, frz := E.frz, old := fun b o => E.old b o ∨ ∃ β l, E.mu β = some l ∧ l.own b o, hid := E.hid }
  have hsr1 : SR w E1 [] w := by
    refine ⟨rfl, Below.refl _ _, hs.frz, fun β x hx => (by simp at hx), fun β l hm => (by cases hm), fun β β' l l' b o h1 => (by cases h1), fun β l b o hm => (by cases hm), fun b o ho => ?_, fun b o ho => ⟨(hs.hid b o ho).1, (hs.hid b o ho).2.1, fun β l hm => (by cases hm)⟩⟩
    rcases ho with ho | ⟨β, l, hm, ho⟩
    · exact ⟨(hs.old b o ho).1, (hs.old b o ho).2.1, fun β l hm => (by cases hm)⟩
    · obtain ⟨y, hy⟩ := hs.non β l hm
      obtain ⟨l2, hm2, hr⟩ := hs.blk β y hy
      rw [hm] at hm2; cases hm2
      exact ⟨by rw [hr.own b o ho]; exact hr.lt, hs.dfr β l b o hm ho, fun β l hm => (by cases hm)⟩
  have hg1 : GR x E1 := fun g => (hg g).lift (.fp _ _ (hx g)) fun _ _ _ hf => hf
  have hv1 : VRs E1 args vs := ⟨hv.1, fun j y v hy hv' => (hv.2 j y v hy hv').lift (ha _ (List.mem_of_getElem? hy)) fun _ _ _ hf => hf⟩
  refine (H.2 w E1 w vs hsr1 hg1 hv1).mono ?_
  rintro e w' ⟨E', h', r, hE, hsr, hr, hP, rfl⟩
  have hn0 : E'.n = 0 := by have := hsr.len; simpa using this.symm
  let E2 : Env := { n := E.n, mu := E.mu, frz := E'.frz, old := E.old, hid := E.hid }
  have hle : Le E E2 := ⟨Nat.le_refl _, fun _ _ _ hm => hm, hE.frz, rfl, rfl⟩
  have hlift : ∀ {x : V} {v : Value}, VR E' x v → VR E2 x v := fun h => h.lift (h.low0 hn0) fun _ _ _ hf => hf
  refine ⟨E2, h, r, hle, ?_, ?_, hP, rfl⟩
  · refine ⟨hs.len, hs.below.trans (hsr.below.mono hs.below.size), hsr.frz, fun β y hy => ?_, hs.non, hs.dis, fun β l b o hm ho => ?_, fun b o ho => ?_, fun b o ho => ⟨(hsr.hid b o (by rw [hE.hid]; exact ho)).1, (hsr.hid b o (by rw [hE.hid]; exact ho)).2.1, (hs.hid b o ho).2.2⟩⟩
    · obtain ⟨l, hl, hr⟩ := hs.blk β y hy
      exact ⟨l, hl, BR.mono hle hsr.below.size (hsr.below.block _ hr.lt).symm hr⟩
    · have : E'.old b o := by rw [hE.old]; exact .inr ⟨β, l, hm, ho⟩
      exact (hsr.old b o this).2.1
    · have : E'.old b o := by rw [hE.old]; exact .inl ho
      exact ⟨(hsr.old b o this).1, (hsr.old b o this).2.1, (hs.old b o ho).2.2⟩
  · cases r with
    | ret a =>
      cases e with
      | returned u => exact hlift hr
      | panicked l => exact hr.elim
      | outgrown => exact hr.elim
    | pan a =>
      cases e with
      | returned u => exact hr.elim
      | outgrown => exact hr.elim
      | panicked l =>
        obtain ⟨v, hv, rfl⟩ := hr
        exact ⟨v, hlift hv, rfl⟩
end Go.Vs
namespace Go.Vs
open Go.RowKit Go.ChangeShapes
set_option linter.unusedSimpArgs false
set_option linter.unusedVariables false

/-- The types of plain data. -/
inductive Ty where
  | bool
  | int (k : IntKind)
  | str
  | sl (e : Ty) (ag : Bool)
  | agg (fs : List Ty)

mutual
def Ty.size : Ty → Nat
  | .agg fs => Ty.sizes fs
  | _ => 1
def Ty.sizes : List Ty → Nat
  | [] => 0
  | t :: r => t.size + Ty.sizes r
end

mutual
/-- The cells are of that type. -/
def Has : Ty → List V → Prop
  | .bool, xs => ∃ b, xs = [.bool b]
  | .int k, xs => ∃ n, xs = [.int k n] ∧ k.min ≤ n ∧ n ≤ k.max
  | .str, xs => ∃ s, xs = [.str s] ∧ s.length ≤ maxLen
  | .sl e ag, xs => xs = [.nsl] ∨ ∃ l, xs = [.lst false l] ∧ l.length ≤ maxLen ∧ ∀ x ∈ l, (if ag = true then x = .agg x.cells else x.cells = [x]) ∧ x.cells.length = e.size ∧ Has e x.cells
  | .agg fs, xs => Hass fs xs
def Hass : List Ty → List V → Prop
  | [], xs => xs = []
  | t :: r, xs => ∃ a b, xs = a ++ b ∧ a.length = t.size ∧ Has t a ∧ Hass r b
end

mutual
def ckPt (P : Program) : Ty → TypeId → Bool
  | .bool, t => match P.underlying t with | some .bool => true | _ => false
  | .int k, t => match P.underlying t with | some (.int k') => k' == k | _ => false
  | .str, t => match P.underlying t with | some .string => true | _ => false
  | .sl e ag, t => match P.underlying t with | some (.slice u) => ckPt P e u && P.cellsOf u == e.size && decide (0 < e.size) && (ag || e.size == 1) | _ => false
  | .agg fs, t => match P.underlying t with
    | some (.struct gs) => P.cellsOf t == Ty.sizes fs && ckPfs P fs gs.toList 0
    | some (.array n u) => P.cellsOf t == Ty.sizes fs && n == fs.length && ckPes P fs u
    | _ => false
def ckPfs (P : Program) : List Ty → List Field → Nat → Bool
  | [], [], _ => true
  | t :: r, f :: gs, o => f.offset == o && P.cellsOf f.type == t.size && ckPt P t f.type && ckPfs P r gs (o + t.size)
  | _, _, _ => false
def ckPes (P : Program) : List Ty → TypeId → Bool
  | [], _ => true
  | t :: r, u => P.cellsOf u == t.size && ckPt P t u && ckPes P r u
end

/-- All that there is ahead of the call is told, as what nobody writes. -/
def frzE (W : World) : Env := { n := 0, mu := fun _ => none, frz := fun b o => W.cell? ⟨b, o, none⟩, old := fun _ _ => False, hid := fun _ => none }

theorem frzE_sr (W : World) : SR W (frzE W) [] W :=
  ⟨rfl, Below.refl _ _, fun _ _ _ h => h, fun β x hx => (by simp at hx), fun β l hm => (by cases hm), fun β β' l l' b o h1 => (by cases h1), fun β l b o hm => (by cases hm), fun b o ho => ho.elim, fun b o ho => (by cases ho)⟩

/-- Plain cells, as the machine has them. -/
def Cells (W : World) (xs : List V) (cs : List Value) : Prop := xs.length = cs.length ∧ ∀ (j : Nat) x v, xs[j]? = some x → cs[j]? = some v → VR (frzE W) x v ∧ v.oneCell' = true ∧ x.one = true

theorem Cells.one {W : World} {x : V} {v : Value} (h : VR (frzE W) x v) (h1 : v.oneCell' = true) (h2 : x.one = true) : Cells W [x] [v] := by
  refine ⟨rfl, fun j y u hy hu => ?_⟩
  match j with
  | 0 => simp at hy hu; subst hy; subst hu; exact ⟨h, h1, h2⟩
  | j + 1 => simp at hy

theorem Cells.nil {W : World} : Cells W [] [] := ⟨rfl, fun j y u hy => by simp at hy⟩

theorem Cells.append {W : World} {a b : List V} {c d : List Value} (h : Cells W a c) (k : Cells W b d) : Cells W (a ++ b) (c ++ d) := by
  refine ⟨by simp [h.1, k.1], fun j x v hx hv => ?_⟩
  rcases Nat.lt_or_ge j a.length with hj | hj
  · rw [List.getElem?_append_left hj] at hx
    rw [List.getElem?_append_left (by have := h.1; omega)] at hv
    exact h.2 j x v hx hv
  · rw [List.getElem?_append_right hj] at hx
    rw [List.getElem?_append_right (by have := h.1; omega), ← h.1] at hv
    exact k.2 _ x v hx hv

theorem Has.length {W : World} : True := trivial

section
variable {H : Type} {enc : TypeId × Value → H} {P : Program} {W : World} {base : Nat} {spare : Nat → Bool} {held : Bool}

theorem mapM_some_cons {α β : Type} {f : α → Option β} {a : α} {l : List α} {ys : List β} (h : (a :: l).mapM f = some ys) : ∃ y r, f a = some y ∧ l.mapM f = some r ∧ ys = y :: r := by
  simp only [List.mapM_cons, Option.bind_eq_bind, Option.pure_def] at h
  obtain ⟨y, h1, h2⟩ := Option.bind_eq_some_iff.1 h
  obtain ⟨r, h3, h4⟩ := Option.bind_eq_some_iff.1 h2
  exact ⟨y, r, h1, h3, (Option.some.inj h4).symm⟩

mutual
theorem open_ty : ∀ (T : Ty) (t : TypeId) (fuel : Nat) (cs : List Value) (x : DataW H × List MemPlace), ckPt P T t = true → DataW.trod enc P W base spare held fuel t cs = some x →
    ∃ xs, Has T xs ∧ xs.length = T.size ∧ Cells W xs cs
  | .bool, t, fuel, cs, x, hc, h => by
    simp only [ckPt] at hc
    split at hc
    · rename_i hu
      obtain ⟨b, rfl, _⟩ := DataW.trod_bool hu h
      exact ⟨[.bool b], ⟨b, rfl⟩, rfl, Cells.one (.bool b) rfl rfl⟩
    · cases hc
  | .int k, t, fuel, cs, x, hc, h => by
    simp only [ckPt] at hc
    split at hc
    · rename_i k' hu
      simp only [beq_iff_eq] at hc
      subst hc
      obtain ⟨m, rfl, _, hwf⟩ := DataW.trod_int hu h
      simp only [Lit.wf, Bool.and_eq_true, decide_eq_true_eq] at hwf
      exact ⟨[.int k' m], ⟨m, rfl, hwf.1, hwf.2⟩, rfl, Cells.one (.int k' m) rfl rfl⟩
    · cases hc
  | .str, t, fuel, cs, x, hc, h => by
    simp only [ckPt] at hc
    split at hc
    · rename_i hu
      obtain ⟨s, rfl, _, hl⟩ := DataW.trod_string hu h
      have hs : (⟨s.data.toList.toArray⟩ : ByteArray) = s := by cases s; simp
      have hv := VR.str (E := frzE W) s.data.toList
      rw [hs] at hv
      refine ⟨[.str s.data.toList], ⟨s.data.toList, rfl, ?_⟩, rfl, Cells.one hv rfl rfl⟩
      rw [Array.length_toList]
      exact hl
    · cases hc
  | .sl e ag, t, fuel, cs, x, hc, h => by
    simp only [ckPt] at hc
    split at hc
    · rename_i u hu
      simp only [Bool.and_eq_true, beq_iff_eq, decide_eq_true_eq, Bool.or_eq_true] at hc
      obtain ⟨⟨⟨hce, hsz⟩, hpos⟩, hag⟩ := hc
      rcases Deep.open_slice hu h with ⟨rfl, rfl⟩ | ⟨a, len, cap, m, n, D, Pl, rfl, hb, hl, hm, hmm, rfl, hel⟩
      · exact ⟨[.nsl], .inl rfl, rfl, Cells.one .nsl rfl rfl⟩
      · have hlm : len ≤ m := by rw [hmm]; split <;> omega
        have hex : ∀ i, i < len → ∃ ys : List V, ∃ cs', W.cells? base (a.add (i * P.cellsOf u)) (P.cellsOf u) = some cs' ∧ Has e ys ∧ ys.length = e.size ∧ Cells W ys cs' := fun i hi => by
          obtain ⟨cs', h1, h2⟩ := hel i (by omega)
          obtain ⟨ys, h3, h4, h5⟩ := open_ty e u n cs' _ hce h2
          exact ⟨ys, cs', h1, h3, h4, h5⟩
        obtain ⟨Y, hY⟩ := Deep.choose_lt (α := List V) hex
        let el (ys : List V) : V := if ag = true then .agg ys else ys.headD .nptr
        have hels : ∀ i, i < len → (el (Y i)).cells = Y i := fun i hi => by
          obtain ⟨cs', h1, h3, h4, h5⟩ := hY i hi
          show (if ag = true then V.agg (Y i) else (Y i).headD .nptr).cells = Y i
          by_cases hg : ag = true
          · rw [if_pos hg]; rfl
          · rw [if_neg hg]
            have h1 : e.size = 1 := hag.resolve_left hg
            rw [h1] at h4
            match hyi : Y i, h4 with
            | [y], _ =>
              have := h5.1
              rw [hyi] at h5
              obtain ⟨c, hc⟩ : ∃ c, cs' = [c] := by
                have := h5.1
                match cs', this with
                | [c], _ => exact ⟨c, rfl⟩
              subst hc
              have h1' := (h5.2 0 y c rfl rfl).2.2
              show y.cells = [y]
              cases y <;> first | rfl | (simp [V.one] at h1')
        have hflat : ∀ n', n' ≤ len → flat ((List.range n').map fun i => el (Y i)) = (List.range n').flatMap Y := fun n' hn' => by
          unfold flat
          rw [List.flatMap_map]
          rw [List.flatMap_def, List.flatMap_def]
          congr 1
          refine List.map_congr_left fun i hi => ?_
          rw [List.mem_range] at hi
          exact hels i (by omega)
        have hYlen : ∀ i, i < len → (Y i).length = e.size := fun i hi => by obtain ⟨_, _, _, h4, _⟩ := hY i hi; exact h4
        have hfl : ∀ n', n' ≤ len → ((List.range n').flatMap Y).length = n' * e.size := by
          intro n' hn'
          induction n' with
          | zero => simp
          | succ k ih => rw [List.range_succ, List.flatMap_append, List.length_append, ih (by omega)]; simp [hYlen k (by omega), Nat.succ_mul]
        have hfa : ∀ n', n' ≤ len → ∀ i, i < n' → ∀ j, j < e.size → ((List.range n').flatMap Y)[i * e.size + j]? = (Y i)[j]? := by
          intro n' hn'
          induction n' with
          | zero => intro i hi; omega
          | succ k ih =>
            intro i hi j hj
            rw [List.range_succ, List.flatMap_append]
            by_cases hik : i = k
            · subst hik
              rw [List.getElem?_append_right (by rw [hfl i (by omega)]; omega), hfl i (by omega)]
              simp
            · have : (i + 1) * e.size ≤ k * e.size := Nat.mul_le_mul_right _ (by omega)
              rw [Nat.succ_mul] at this
              rw [List.getElem?_append_left (by rw [hfl k (by omega)]; omega)]
              exact ih (by omega) i (by omega) j hj
        have hspot : 0 < len → a.spot = none := fun h0 => by
          obtain ⟨cs', h1, _⟩ := hY 0 h0
          obtain ⟨_, h2, h3⟩ := World.cells?_some h1
          have h4 := h3 0 (by omega)
          rw [List.getElem?_eq_getElem (by omega)] at h4
          have := World.cell?_spot h4
          simpa [Addr.add] using this
        have hcell : ∀ i, i < len → ∀ j, j < e.size → ∃ v, W.cell? ⟨a.block, a.off + (i * e.size + j), none⟩ = some v ∧ (∀ y, (Y i)[j]? = some y → VR (frzE W) y v) ∧ v.oneCell' = true := fun i hi j hj => by
          obtain ⟨cs', h1, h3, h4, h5⟩ := hY i hi
          obtain ⟨_, h7, h8⟩ := World.cells?_some h1
          have hj' : j < cs'.length := by rw [h7, hsz]; exact hj
          have h9 := h8 j (by omega)
          rw [List.getElem?_eq_getElem hj'] at h9
          have hs := hspot (by omega)
          have ha : (a.add (i * P.cellsOf u)).add j = ⟨a.block, a.off + (i * e.size + j), none⟩ := by
            rw [hsz, Deep.add_add]
            unfold Addr.add
            split
            · rename_i h0
              cases a
              simp at hs ⊢
              exact ⟨by omega, hs⟩
            · rfl
          rw [ha] at h9
          refine ⟨_, h9, fun y hy => (h5.2 j y _ hy (List.getElem?_eq_getElem hj')).1, ?_⟩
          have hy : j < (Y i).length := by omega
          exact (h5.2 j _ _ (List.getElem?_eq_getElem hy) (List.getElem?_eq_getElem hj')).2.1
        let l : List V := (List.range len).map fun i => el (Y i)
        have hll : l.length = len := by simp [l]
        have hfll : flat l = (List.range len).flatMap Y := hflat len (Nat.le_refl _)
        have hfllen : (flat l).length = len * e.size := by rw [hfll]; exact hfl len (Nat.le_refl _)
        have hsplit : ∀ j, j < len * e.size → ∃ i k, i < len ∧ k < e.size ∧ j = i * e.size + k := fun j hj => by
          refine ⟨j / e.size, j % e.size, ?_, Nat.mod_lt _ hpos, ?_⟩
          · exact (Nat.div_lt_iff_lt_mul hpos).2 hj
          · rw [Nat.mul_comm]; exact (Nat.div_add_mod j e.size).symm
        obtain ⟨vals, hvals⟩ := Deep.choose_lt (α := Value) (n := len * e.size) (p := fun j v => W.cell? ⟨a.block, a.off + j, none⟩ = some v ∧ (∀ y, (flat l)[j]? = some y → VR (frzE W) y v) ∧ v.oneCell' = true) fun j hj => by
          obtain ⟨i, k, hi, hk, rfl⟩ := hsplit j hj
          obtain ⟨v, h1, h2, h3⟩ := hcell i hi k hk
          exact ⟨v, h1, fun y hy => h2 y (by rw [hfll, hfa len (Nat.le_refl _) i hi k hk] at hy; exact hy), h3⟩
        refine ⟨[.lst false l], .inr ⟨l, rfl, by rw [hll]; omega, fun x hx => ?_⟩, rfl, Cells.one ?_ rfl rfl⟩
        · obtain ⟨i, hi, rfl⟩ := List.mem_map.1 hx
          rw [List.mem_range] at hi
          have hxc := hels i hi
          rw [hxc]
          obtain ⟨cs', h1, h3, h4, h5⟩ := hY i hi
          refine ⟨?_, h4, h3⟩
          by_cases hg : ag = true
          · rw [if_pos hg]; show el (Y i) = V.agg (Y i); simp only [el]; rw [if_pos hg]
          · rw [if_neg hg]
            have h1 : e.size = 1 := hag.resolve_left hg
            rw [h1] at h4
            match hyi : Y i, h4 with
            | [y], _ => show [y] = [el [y]]; simp only [el]; rw [if_neg hg]; rfl
        · rw [← hll]
          refine .lst false l e.size a a.block a.off cap vals (by omega) (by simp) (fun x hx => ?_) (fun hne => ?_) (fun j hj => ?_) (fun j hj => ?_) (fun j hj => ?_)
          · obtain ⟨i, hi, rfl⟩ := List.mem_map.1 hx
            rw [List.mem_range] at hi
            rw [hels i hi]; exact hYlen i hi
          · have h0 : 0 < len := by rw [← hll]; exact List.length_pos_iff.2 hne
            have := hspot h0
            cases a; simp at this ⊢; exact this
          · exact (hvals j (by omega)).1
          · exact (hvals j (by omega)).2.1 _ (List.getElem?_eq_getElem hj)
          · exact (hvals j (by omega)).2.2
    · cases hc
  | .agg fs, t, 0, cs, x, hc, h => by simp [DataW.trod] at h
  | .agg fs, t, n + 1, cs, x, hc, h => by
    simp only [ckPt] at hc
    split at hc
    · rename_i gs hu
      simp only [Bool.and_eq_true, beq_iff_eq] at hc
      unfold DataW.trod at h
      rw [hu] at h
      simp only at h
      split at h
      · rename_i hl
        obtain ⟨ys, h1, _⟩ := Option.map_eq_some_iff.1 h
        obtain ⟨xs, h2, h3, h4⟩ := open_fs fs gs.toList 0 n cs ys hc.2 (by rw [hl, hc.1]; omega) h1
        exact ⟨xs, h2, h3, by simpa using h4⟩
      · cases h
    · rename_i m u hu
      simp only [Bool.and_eq_true, beq_iff_eq] at hc
      unfold DataW.trod at h
      rw [hu] at h
      simp only at h
      split at h
      · rename_i hl
        obtain ⟨ys, h1, _⟩ := Option.map_eq_some_iff.1 h
        have e1 : List.range m = List.range' 0 fs.length := by rw [hc.1.2, List.range_eq_range']
        rw [e1] at h1
        obtain ⟨xs, h2, h3, h4⟩ := open_es fs u 0 n cs ys hc.2 (by rw [hl, hc.1.1]; omega) h1
        exact ⟨xs, h2, h3, by simpa using h4⟩
      · cases h
    · cases hc

theorem open_fs : ∀ (fs : List Ty) (gs : List Field) (o : Nat) (fuel : Nat) (cs : List Value) (ys : List (DataW H × List MemPlace)), ckPfs P fs gs o = true → cs.length = o + Ty.sizes fs →
    (gs.mapM fun f => DataW.trod enc P W base spare held fuel f.type ((cs.drop f.offset).take (P.cellsOf f.type))) = some ys →
    ∃ xs, Hass fs xs ∧ xs.length = Ty.sizes fs ∧ Cells W xs (cs.drop o)
  | [], [], o, fuel, cs, ys, hc, hl, h => ⟨[], rfl, rfl, by rw [List.drop_eq_nil_of_le (by simp [Ty.sizes] at hl; omega)]; exact Cells.nil⟩
  | [], _ :: _, o, fuel, cs, ys, hc, hl, h => by simp [ckPfs] at hc
  | _ :: _, [], o, fuel, cs, ys, hc, hl, h => by simp [ckPfs] at hc
  | t :: r, f :: gs, o, fuel, cs, ys, hc, hl, h => by
    simp only [ckPfs, Bool.and_eq_true, beq_iff_eq] at hc
    obtain ⟨⟨⟨ho, hsz⟩, hck⟩, hr⟩ := hc
    obtain ⟨y, yr, h1, h2, rfl⟩ := mapM_some_cons h
    simp only [Ty.sizes] at hl
    obtain ⟨a, h3, h4, h5⟩ := open_ty t f.type fuel _ y hck h1
    obtain ⟨b, h6, h7, h8⟩ := open_fs r gs (o + t.size) fuel cs yr hr (by omega) h2
    refine ⟨a ++ b, ⟨a, b, rfl, h4, h3, h6⟩, by simp [Ty.sizes, h4, h7], ?_⟩
    rw [ho, hsz] at h5
    have e : cs.drop o = (cs.drop o).take t.size ++ cs.drop (o + t.size) := by rw [← List.drop_drop, List.take_append_drop]
    rw [e]
    exact h5.append h8

theorem open_es : ∀ (fs : List Ty) (u : TypeId) (i : Nat) (fuel : Nat) (cs : List Value) (ys : List (DataW H × List MemPlace)), ckPes P fs u = true → cs.length = i * P.cellsOf u + Ty.sizes fs →
    ((List.range' i fs.length).mapM fun i => DataW.trod enc P W base spare held fuel u ((cs.drop (i * P.cellsOf u)).take (P.cellsOf u))) = some ys →
    ∃ xs, Hass fs xs ∧ xs.length = Ty.sizes fs ∧ Cells W xs (cs.drop (i * P.cellsOf u))
  | [], u, i, fuel, cs, ys, hc, hl, h => ⟨[], rfl, rfl, by rw [List.drop_eq_nil_of_le (by simp [Ty.sizes] at hl; omega)]; exact Cells.nil⟩
  | t :: r, u, i, fuel, cs, ys, hc, hl, h => by
    simp only [ckPes, Bool.and_eq_true, beq_iff_eq] at hc
    obtain ⟨⟨hsz, hck⟩, hr⟩ := hc
    rw [List.length_cons, List.range'_succ] at h
    obtain ⟨y, yr, h1, h2, rfl⟩ := mapM_some_cons h
    simp only [Ty.sizes] at hl
    obtain ⟨a, h3, h4, h5⟩ := open_ty t u fuel _ y hck h1
    have e2 : (i + 1) * P.cellsOf u = i * P.cellsOf u + t.size := by rw [Nat.succ_mul, hsz]
    obtain ⟨b, h6, h7, h8⟩ := open_es r u (i + 1) fuel cs yr hr (by rw [e2]; omega) h2
    refine ⟨a ++ b, ⟨a, b, rfl, h4, h3, h6⟩, by simp [Ty.sizes, h4, h7], ?_⟩
    rw [e2] at h8
    have e : cs.drop (i * P.cellsOf u) = (cs.drop (i * P.cellsOf u)).take t.size ++ cs.drop (i * P.cellsOf u + t.size) := by rw [← List.drop_drop, List.take_append_drop]
    rw [e]
    have h5' : Cells W a ((cs.drop (i * P.cellsOf u)).take t.size) := by rw [← hsz]; exact h5
    exact h5'.append h8
end
end
end Go.Vs
namespace Go.Vs
open Go.RowKit Go.ChangeShapes

/-- A parameter of that type. -/
def HasA (T : Ty) (x : V) : Prop := Has T x.cells ∧ match T with
  | .agg _ => x = .agg x.cells
  | _ => x.cells = [x]
def HasAs : List Ty → List V → Prop
  | [], xs => xs = []
  | T :: r, xs => ∃ x ys, xs = x :: ys ∧ HasA T x ∧ HasAs r ys
def ckPts (P : Program) : List Ty → List TypeId → Bool
  | [], [] => true
  | T :: r, t :: ts => ckPt P T t && ckPts P r ts
  | _, _ => false

section
variable {H : Type} {enc : TypeId × Value → H} {P : Program} {W : World} {base b0 : Nat} {spare : Nat → Bool} {held : Bool}

theorem Cells.agg {xs : List V} {cs : Array Value} (h : Cells W xs cs.toList) : VR (frzE W) (.agg xs) (.agg cs) :=
  .agg xs cs (by have := h.1; simpa using this.symm) (fun j x v hx hv => (h.2 j x v hx (by rw [Array.getElem?_toList]; exact hv)).1) (fun j v hv => by
    have hj : j < cs.size := (Array.getElem?_eq_some_iff.1 hv).1
    have hj' : j < xs.length := by have := h.1; simp at this; omega
    exact (h.2 j _ v (List.getElem?_eq_getElem hj') (by rw [Array.getElem?_toList]; exact hv)).2.1)

theorem Cells.single {xs : List V} {v : Value} (hn : v.oneCell' = true) (hl : xs.length = 1) (h : Cells W xs v.cells.toList) : ∃ x, xs = [x] ∧ VR (frzE W) x v ∧ x.cells = [x] := by
  match xs, hl with
  | [x], _ =>
    have hc : v.cells.toList = [v] := by cases v <;> first | rfl | cases hn
    rw [hc] at h
    have h0 := h.2 0 x v rfl rfl
    refine ⟨x, rfl, h0.1, ?_⟩
    have := h0.2.2
    cases x <;> first | rfl | cases this

theorem open_arg {T : Ty} {t : TypeId} {v : Value} {d : DataW H} {p : List MemPlace} (hc : ckPt P T t = true) (hok : Value.okWide P W .any b0 t v) (h : DataW.Trod enc P W base spare held t v d p) : ∃ x, HasA T x ∧ VR (frzE W) x v := by
  obtain ⟨fuel, h⟩ := h
  obtain ⟨xs, h1, h2, h3⟩ := open_ty T t fuel _ _ hc h
  cases T with
  | agg fs =>
    have : ∃ cs, v = .agg cs := by
      simp only [ckPt] at hc
      split at hc
      · rename_i gs hu; simp only [Value.okWide, hu] at hok; obtain ⟨cs, rfl, _⟩ := hok; exact ⟨cs, rfl⟩
      · rename_i n u hu; simp only [Value.okWide, hu] at hok; obtain ⟨cs, rfl, _⟩ := hok; exact ⟨cs, rfl⟩
      · cases hc
    obtain ⟨cs, rfl⟩ := this
    exact ⟨.agg xs, ⟨h1, rfl⟩, Cells.agg h3⟩
  | bool =>
    have hn : v.oneCell' = true := by
      simp only [ckPt] at hc
      split at hc
      · rename_i hu; simp only [Value.okWide, Cell.okWide, Cell.ok, hu] at hok; cases v <;> first | rfl | exact hok.elim
      · cases hc
    obtain ⟨x, rfl, h4, h5⟩ := h3.single hn h2
    exact ⟨x, ⟨by rw [h5]; exact h1, h5⟩, h4⟩
  | int k =>
    have hn : v.oneCell' = true := by
      simp only [ckPt] at hc
      split at hc
      · rename_i hu; simp only [Value.okWide, Cell.okWide, Cell.ok, hu] at hok; cases v <;> first | rfl | exact hok.elim
      · cases hc
    obtain ⟨x, rfl, h4, h5⟩ := h3.single hn h2
    exact ⟨x, ⟨by rw [h5]; exact h1, h5⟩, h4⟩
  | str =>
    have hn : v.oneCell' = true := by
      simp only [ckPt] at hc
      split at hc
      · rename_i hu; simp only [Value.okWide, Cell.okWide, Cell.ok, hu] at hok; cases v <;> first | rfl | exact hok.elim
      · cases hc
    obtain ⟨x, rfl, h4, h5⟩ := h3.single hn h2
    exact ⟨x, ⟨by rw [h5]; exact h1, h5⟩, h4⟩
  | sl e ag =>
    have hn : v.oneCell' = true := by
      simp only [ckPt] at hc
      split at hc
      · rename_i hu; simp only [Value.okWide, Cell.okWide, Cell.ok, hu] at hok; cases v <;> first | rfl | exact hok.elim
      · cases hc
    obtain ⟨x, rfl, h4, h5⟩ := h3.single hn h2
    exact ⟨x, ⟨by rw [h5]; exact h1, h5⟩, h4⟩

theorem open_args : ∀ (Ts : List Ty) (ts : List TypeId) (vs : List Value) (ds : List (DataW H)) (p : List MemPlace), ckPts P Ts ts = true → (∀ (j : Nat) t v, ts[j]? = some t → vs[j]? = some v → Value.okWide P W .any b0 t v) →
    DataW.TrodAll enc P W base spare held ts vs ds p → ∃ xs, HasAs Ts xs ∧ xs.length = vs.length ∧ ds.length = Ts.length ∧ ∀ (j : Nat) x v, xs[j]? = some x → vs[j]? = some v → VR (frzE W) x v
  | [], [], vs, ds, p, hc, hok, h => by
    obtain ⟨rfl, rfl, rfl⟩ := trodAll_nil h
    exact ⟨[], rfl, rfl, rfl, fun j x v hx => by simp at hx⟩
  | [], _ :: _, vs, ds, p, hc, hok, h => by simp [ckPts] at hc
  | _ :: _, [], vs, ds, p, hc, hok, h => by simp [ckPts] at hc
  | T :: r, t :: ts, vs, ds, p, hc, hok, h => by
    simp only [ckPts, Bool.and_eq_true] at hc
    obtain ⟨v, vs1, d, ds1, a, b, rfl, rfl, rfl, h1, h2⟩ := trodAll_cons h
    obtain ⟨x, h3, h4⟩ := open_arg hc.1 (hok 0 t v rfl rfl) h1
    obtain ⟨xs, h5, h6, h7, h8⟩ := open_args r ts vs1 ds1 b hc.2 (fun j t v ht hv => hok (j + 1) t v ht hv) h2
    refine ⟨x :: xs, ⟨x, xs, rfl, h3, h5⟩, by simp [h6], by simp [h7], fun j y v hy hv => ?_⟩
    match j with
    | 0 => simp at hy hv; subst hy; subst hv; exact h4
    | j + 1 => exact h8 j y v hy hv

theorem trodAll_behind (hl : laidOutB P = true) {W' : World} (hb : Below W.heap.size W W') : ∀ (ts : List TypeId) (vs : List Value) (ds : List (DataW H)) (p : List MemPlace), ts.all (fun t => P.readableRec t && decide (t < P.types.size)) = true →
    (∀ x ∈ p, x.block < W.heap.size) → DataW.TrodAll enc P W 0 (fun _ => true) true ts vs ds p → DataW.TrodAll enc P W' 0 (fun b => decide (b < W.heap.size)) true ts vs ds p
  | [], vs, ds, p, hr, hlt, h => by
    obtain ⟨rfl, rfl, rfl⟩ := trodAll_nil h
    exact trodAll_mk0
  | t :: ts, vs, ds, p, hr, hlt, h => by
    simp only [List.all_cons, Bool.and_eq_true, decide_eq_true_eq] at hr
    obtain ⟨v, vs1, d, ds1, a, b, rfl, rfl, rfl, h1, h2⟩ := trodAll_cons h
    exact ⟨a, b, Below.trod hl hr.1.1 hr.1.2 h1 hb (fun x hx => hlt x (by simp [hx])), trodAll_behind hl hb ts vs1 ds1 b hr.2 (fun x hx => hlt x (by simp [hx])) h2, rfl⟩
end

end Go.Vs
namespace Go.Vs
open Go.RowKit Go.ChangeShapes

/-- What a law's row asks of a call, in a world whose package variables read as told. -/
theorem law_contractG {x : X} {f : FuncId} {fn : Func} {s : ChangeSpec} {Ts : List Ty} {tb : TypeId} {apart : Bool} {H : Type} {enc : TypeId × Value → H}
    (hlaid : laidOutB x.P = true) (hvars : s.vars = []) (hres : fn.resultTypes = #[tb]) (hb : x.P.underlying tb = some .bool)
    (hread : fn.params.toList.all (fun t => x.P.readableRec t && decide (t < x.P.types.size)) = true) (hck : ckPts x.P Ts fn.params.toList = true)
    (hfn : ∀ ds : List (DataW H), ds.length = Ts.length → s.fn H ds = { results := [.lit (.bool true)], args := ds })
    (hlaw : ∀ xs, HasAs Ts xs → PCalls x f xs fun r => r = .ret (.bool true))
    {W : World} (hG : GR x (frzE W)) {base : Nat} {args : Array Value} {ds gs : List (DataW H)} {before : List MemPlace}
    (hval : ∀ (j : Nat) t v, fn.params[j]? = some t → args[j]? = some v → Value.okWide x.P W .any base t v)
    (hW : DataW.Whole enc x.P fn.params.toList s.vars apart W args.toList ds gs before) :
    Calls x.P f args W fun e W' => ∃ v, e = .returned v ∧ s.post enc x.P fn apart true false false W args v W' := by
  have hW' := hW
  obtain ⟨p, q, hA, hV, rfl, hfz, hnd⟩ := hW
  obtain ⟨xs, h1, h2, h3, h4⟩ := open_args (b0 := base) Ts fn.params.toList args.toList ds p hck (fun j t v ht hv => hval j t v (by rw [← Array.getElem?_toList]; exact ht) (by rw [← Array.getElem?_toList]; exact hv)) hA
  have hq : gs = [] ∧ q = [] := by
    rw [hvars] at hV
    cases gs with
    | nil => exact ⟨rfl, hV⟩
    | cons g r => exact hV.elim
  obtain ⟨rfl, rfl⟩ := hq
  have hvs : VRs (frzE W) xs args := ⟨by rw [h2]; simp, fun j x v hx hv => h4 j x v hx (by rw [Array.getElem?_toList]; exact hv)⟩
  refine ((hlaw xs h1).2 W (frzE W) W args (frzE_sr W) hG hvs).mono ?_
  rintro e W' ⟨E', h', r, hE, hsr, hr, rfl, rfl⟩
  cases e with
  | panicked l => exact hr.elim
  | outgrown => exact hr.elim
  | returned v =>
    cases hr
    refine ⟨_, rfl, ds, [], p ++ [], [], p, [], hW', ?_, ?_, ?_, hsr.below.frame _, fun h => by cases h⟩
    · rw [List.append_nil, hfn ds h3, hres]
      exact trodAll_mk1 (shut_bool hb true)
    · rw [List.append_nil, hfn ds h3]
      exact trodAll_behind hlaid hsr.below _ _ _ _ hread (fun y hy => hW'.lt y (by simp [hy])) hA
    · rw [List.append_nil, hfn ds h3, hvars]
      rfl

/-- A laid array of integers, read as told. -/
theorem laid_ints {H : Type} {enc : TypeId × Value → H} {P : Program} {W : World} {base : Nat} {spare : Nat → Bool} {held : Bool} {name : String} {g n fuel : Nat} {t e : TypeId} {k : IntKind} {cs : Array Value} {ns : List Int} {q : List MemPlace}
    (hg : P.globalNamed name = some g) (hv : W.var? P name = some cs) (hu : P.underlying t = some (.array n e)) (he : P.underlying e = some (.int k)) (hc : P.cellsOf e = 1)
    (hd : DataW.trod enc P W base spare held fuel t cs.toList = some (.agg (ns.map fun i => .lit (.int k i)), q)) : VR (frzE W) (.fp (ns.map fun i => .int k i) 0) (.pointer (some ⟨g, 0, none⟩)) := by
  obtain ⟨xs, m, rfl, hx, hlen, hn, hel⟩ := DataW.trod_array hu hd
  simp only [Prod.mk.injEq, DataW.agg.injEq] at hx
  have hl : ns.length = xs.length := by have := congrArg List.length hx.1; simpa using this
  have key : ∀ j (hj : j < ns.length), cs[j]? = some (.int k ns[j]) := by
    intro j hj
    have h1 := hel j (by omega)
    rw [List.getElem?_eq_getElem (by omega)] at h1
    obtain ⟨z, e1, e2, _⟩ := DataW.trod_int he h1
    have h3 : (ns.map fun i => (DataW.lit (.int k i) : DataW H))[j]? = (xs.map (·.1))[j]? := by rw [hx.1]
    rw [List.getElem?_map, List.getElem?_map, List.getElem?_eq_getElem hj, List.getElem?_eq_getElem (by omega)] at h3
    simp only [Option.map_some, Option.some.injEq] at h3
    rw [e2] at h3
    simp only [DataW.lit.injEq, Lit.int.injEq, true_and] at h3
    rw [hc] at e1
    have h4 : cs.toList[j]? = some (.int k z) := by
      have := congrArg (fun l => l[0]?) e1
      simpa [List.getElem?_take, List.getElem?_drop] using this
    rw [Array.getElem?_toList] at h4
    rw [h4, h3]
  refine .fp _ 0 g 0 (fun j => .int k (ns.getD j 0)) (fun j hj => ?_) (fun j hj => ?_) (fun j hj => rfl)
  · have hj' : j < ns.length := by simpa using hj
    show W.cell? ⟨g, 0 + j, none⟩ = _
    rw [Nat.zero_add, World.var?_cell hg hv j, key j hj']
    simp [List.getD, List.getElem?_eq_getElem hj']
  · have hj' : j < ns.length := by simpa using hj
    simp only [List.getElem_map]
    simp only [List.getD, List.getElem?_eq_getElem hj', Option.getD_some]
    exact .int k _
theorem fp_nil (E : Env) (b : Nat) : VR E (.fp [] 0) (.pointer (some ⟨b, 0, none⟩)) := .fp [] 0 b 0 (fun _ => .bool true) (fun j hj => absurd hj (Nat.not_lt_zero j)) (fun j hj => absurd hj (Nat.not_lt_zero j)) (fun j hj => rfl)
end Go.Vs
namespace Go.Vs
open Go.RowKit Go.ChangeShapes
end Go.Vs
namespace Go.Vs
open Go.RowKit

mutual
/-- The same, its blocks so many places later. -/
def sh (k : Nat) : V → V
  | .ptr b o => .ptr (b + k) o
  | .fp cs o => .fp (shs k cs) o
  | .sl b off len cap ex es ag => .sl (b + k) off len cap ex es ag
  | .lst ex xs => .lst ex (shs k xs)
  | .map b => .map (b + k)
  | .fn f a c => .fn f (shs k a) (shs k c)
  | .ifc t v => .ifc t (sh k v)
  | .agg cs => .agg (shs k cs)
  | .tup cs => .tup (shs k cs)
  | v => v
def shs (k : Nat) : List V → List V
  | [] => []
  | x :: r => sh k x :: shs k r
end

theorem shs_map (k : Nat) : ∀ l, shs k l = l.map (sh k)
  | [] => rfl
  | x :: r => by simp [shs, shs_map k r]

theorem sh_cells (k : Nat) (x : V) : (sh k x).cells = x.cells.map (sh k) := by
  cases x <;> simp [sh, V.cells, shs_map]

theorem flat_sh (k : Nat) (xs : List V) : flat (xs.map (sh k)) = (flat xs).map (sh k) := by
  induction xs with
  | nil => rfl
  | cons x r ih => simp only [flat, List.map_cons, List.flatMap_cons, List.map_append, sh_cells] at ih ⊢; rw [ih]

def shPs (k : Nat) : List (V × V) → List (V × V)
  | [] => []
  | (a, b) :: r => (sh k a, sh k b) :: shPs k r
theorem shPs_map (k : Nat) : ∀ l, shPs k l = l.map fun e => (sh k e.1, sh k e.2)
  | [] => rfl
  | (a, b) :: r => by simp [shPs, shPs_map k r]
def shB (k : Nat) : Blk → Blk
  | .cells cs ty => .cells (shs k cs) ty
  | .map es => .map (shPs k es)
def shH (k : Nat) : Hp → Hp
  | [] => []
  | none :: r => none :: shH k r
  | some b :: r => some (shB k b) :: shH k r
theorem shH_map (k : Nat) : ∀ l, shH k l = l.map (Option.map (shB k))
  | [] => rfl
  | none :: r => by simp [shH, shH_map k r]
  | some b :: r => by simp [shH, shH_map k r]
def shR (k : Nat) : Res → Res
  | .ret v => .ret (sh k v)
  | .pan v => .pan (sh k v)

/-- Two heaps' blocks, one behind the other. -/
def Env.both (E E' : Env) : Env := { n := E.n + E'.n, mu := fun β => if β < E.n then E.mu β else E'.mu (β - E.n), frz := E'.frz, old := E.old, hid := E.hid }

theorem both_mu {E E' : Env} (β : Nat) : (E.both E').mu (β + E.n) = E'.mu β := by
  simp only [Env.both]
  rw [if_neg (by omega)]
  congr 1
  omega

theorem VR.both {E E' : Env} {x : V} {v : Value} (h : VR E' x v) : VR (E.both E') (sh E.n x) v := by
  induction h with
  | bool b => exact .bool b
  | int k n => exact .int k n
  | str s => exact .str s
  | nptr => exact .nptr
  | ptr β o a hn h => exact .ptr _ o a (by simp [Env.both]; omega) fun l hl => h l (by rw [both_mu] at hl; exact hl)
  | fp cs off b p vals h1 _ h3 ih =>
    simp only [sh, shs_map]
    refine .fp _ off b p vals (fun j hj => h1 j (by simpa using hj)) (fun j hj => ?_) (fun j hj => h3 j (by simpa using hj))
    rw [List.getElem_map]
    exact ih j (by simpa using hj)
  | nsl => exact .nsl
  | sl β off len cap ex es ag a cap' hn hl hc hex h => exact .sl _ off len cap ex es ag a cap' (by simp [Env.both]; omega) hl hc hex fun l hl => h l (by rw [both_mu] at hl; exact hl)
  | lst ex xs es a b p cap vals hc hex hes ha h1 _ h3 ih =>
    simp only [sh, shs_map]
    rw [show xs.length = (xs.map (sh E.n)).length by simp]
    refine .lst ex _ es a b p cap vals (by simpa using hc) (by simpa using hex) (fun x hx => ?_) (fun hne => ha (by simpa using hne)) (fun j hj => ?_) (fun j hj => ?_) (fun j hj => ?_)
    · obtain ⟨y, hy, rfl⟩ := List.mem_map.1 hx
      rw [sh_cells, List.length_map]; exact hes y hy
    · rw [flat_sh, List.length_map] at hj; exact h1 j hj
    · have hj' := hj
      rw [flat_sh, List.length_map] at hj'
      have := ih j hj'
      have e : (flat (xs.map (sh E.n)))[j] = sh E.n (flat xs)[j] := by simp only [flat_sh, List.getElem_map]
      rw [e]; exact this
    · rw [flat_sh, List.length_map] at hj; exact h3 j hj
  | nmap => exact .nmap
  | map β r hn h => exact .map _ r (by simp [Env.both]; omega) fun l hl => h l (by rw [both_mu] at hl; exact hl)
  | fn f first cap first' cap' hl hc _ _ ih1 ih2 =>
    simp only [sh, shs_map]
    refine .fn f _ _ first' cap' (by simpa using hl) (by simpa using hc) (fun j x v hx hv => ?_) (fun j x v hx hv => ?_)
    · rw [List.getElem?_map, Option.map_eq_some_iff] at hx
      obtain ⟨y, hy, rfl⟩ := hx
      exact ih1 j y v hy hv
    · rw [List.getElem?_map, Option.map_eq_some_iff] at hx
      obtain ⟨y, hy, rfl⟩ := hx
      exact ih2 j y v hy hv
  | nfn => exact .nfn
  | ifc t x v _ ih => exact .ifc t _ v ih
  | nifc => exact .nifc
  | agg cs vs hl _ h1 ih =>
    simp only [sh, shs_map]
    refine .agg _ vs (by simpa using hl) (fun j x v hx hv => ?_) h1
    rw [List.getElem?_map, Option.map_eq_some_iff] at hx
    obtain ⟨y, hy, rfl⟩ := hx
    exact ih j y v hy hv
  | tup cs vs hl _ ih =>
    simp only [sh, shs_map]
    refine .tup _ vs (by simpa using hl) (fun j x v hx hv => ?_)
    rw [List.getElem?_map, Option.map_eq_some_iff] at hx
    obtain ⟨y, hy, rfl⟩ := hx
    exact ih j y v hy hv

theorem ACalls.frame {x : X} (hx : XLow x) {f : FuncId} {args : List V} {R : Res → Hp → Prop} (H : ACalls x f args [] R) (ha : ∀ a ∈ args, Low 0 a) (h : Hp) : ACalls x f args h fun r h' => ∃ r0 h0, R r0 h0 ∧ r = shR h.length r0 ∧ h' = h ++ shH h.length h0 := by
  refine ⟨H.1, fun w0 E w vs hs hg hv => ?_⟩
  let E1 : Env := { n := 0, mu := fun _ => none, frz := E.frz, old := fun b o => E.old b o ∨ ∃ β l, E.mu β = some l ∧ l.own b o, hid := E.hid }
  have hsr1 : SR w E1 [] w := by
    refine ⟨rfl, Below.refl _ _, hs.frz, fun β x hx => (by simp at hx), fun β l hm => (by cases hm), fun β β' l l' b o h1 => (by cases h1), fun β l b o hm => (by cases hm), fun b o ho => ?_, fun b o ho => ⟨(hs.hid b o ho).1, (hs.hid b o ho).2.1, fun β l hm => (by cases hm)⟩⟩
    rcases ho with ho | ⟨β, l, hm, ho⟩
    · exact ⟨(hs.old b o ho).1, (hs.old b o ho).2.1, fun β l hm => (by cases hm)⟩
    · obtain ⟨y, hy⟩ := hs.non β l hm
      obtain ⟨l2, hm2, hr⟩ := hs.blk β y hy
      rw [hm] at hm2; cases hm2
      exact ⟨by rw [hr.own b o ho]; exact hr.lt, hs.dfr β l b o hm ho, fun β l hm => (by cases hm)⟩
  have hg1 : GR x E1 := fun g => (hg g).lift (.fp _ _ (hx g)) fun _ _ _ hf => hf
  have hv1 : VRs E1 args vs := ⟨hv.1, fun j y v hy hv' => (hv.2 j y v hy hv').lift (ha _ (List.mem_of_getElem? hy)) fun _ _ _ hf => hf⟩
  refine (H.2 w E1 w vs hsr1 hg1 hv1).mono ?_
  rintro e w' ⟨E', h0, r0, hE, hsr, hr, hR⟩
  have hlen := hs.len
  have hlen' := hsr.len
  have hle : Le E (E.both E') := ⟨by simp [Env.both], fun β l hβ hm => (by simp only [Env.both] at hm; rw [if_pos hβ] at hm; exact hm), hE.frz, rfl, rfl⟩
  have hhid : E.hid = E'.hid := hE.hid.symm
  have hold1 : ∀ β l b o, E.mu β = some l → l.own b o → E'.old b o := fun β l b o hm ho => by rw [hE.old]; exact .inr ⟨β, l, hm, ho⟩
  have hold2 : ∀ b o, E.old b o → E'.old b o := fun b o ho => by rw [hE.old]; exact .inl ho
  have hmu : ∀ β l, (E.both E').mu β = some l → (β < E.n ∧ E.mu β = some l) ∨ (E.n ≤ β ∧ E'.mu (β - E.n) = some l) := fun β l hm => by
    simp only [Env.both] at hm
    split at hm
    · exact .inl ⟨‹_›, hm⟩
    · exact .inr ⟨by omega, hm⟩
  refine ⟨E.both E', h ++ shH h.length h0, shR h.length r0, hle, ?_, ?_, r0, h0, hR, rfl, rfl⟩
  · refine ⟨?_, hs.below.trans (hsr.below.mono hs.below.size), hsr.frz, fun β y hy => ?_, fun β l hm => ?_, fun β β' l l' b o h1 h2 o1 o2 => ?_, fun β l b o hm ho => ?_, fun b o ho => ⟨(hsr.old b o (hold2 b o ho)).1, (hsr.old b o (hold2 b o ho)).2.1, fun β l hm ho' => ?_⟩, fun b o ho => ⟨(hsr.hid b o (hhid ▸ ho)).1, (hsr.hid b o (hhid ▸ ho)).2.1, fun β l hm => ?_⟩⟩
    · simp [shH_map, Env.both, hlen, hlen']
    · rcases Nat.lt_or_ge β h.length with hβ | hβ
      · rw [List.getElem?_append_left hβ] at hy
        obtain ⟨l, hl, hr⟩ := hs.blk β y hy
        refine ⟨l, by simp only [Env.both]; rw [if_pos (by omega)]; exact hl, BR.mono hle hsr.below.size (hsr.below.block _ hr.lt).symm hr⟩
      · rw [List.getElem?_append_right hβ, shH_map, List.getElem?_map] at hy
        obtain ⟨y1, hy1, e⟩ := Option.map_eq_some_iff.1 hy
        cases y1 with
        | none => cases e
        | some y0 =>
          simp only [Option.map_some, Option.some.injEq] at e
          subst e
          obtain ⟨l, hl, hr⟩ := hsr.blk _ y0 hy1
          refine ⟨l, by simp only [Env.both]; rw [if_neg (by omega), ← hlen]; exact hl, ?_⟩
          cases y0 with
          | cells cs ty =>
            obtain ⟨g0, g1, g2, g3, g4⟩ := hr
            refine ⟨g0, Nat.le_trans hs.below.size g1, g2, g3, fun j hj => ?_⟩
            simp only [shs_map, List.length_map] at hj
            obtain ⟨a1, v, a2, a3, a4⟩ := g4 j hj
            refine ⟨a1, v, a2, ?_, a4⟩
            have := VR.both (E := E) a3
            simp only [shs_map, List.getElem_map, hlen]
            exact this
          | map es =>
            obtain ⟨g1, g0, g2, ms, clock, g3, g4, g5⟩ := hr
            refine ⟨Nat.le_trans hs.below.size g1, g0, g2, ms, clock, g3, by simpa [shPs_map] using g4, fun j e m he hm => ?_⟩
            rw [shPs_map, List.getElem?_map, Option.map_eq_some_iff] at he
            obtain ⟨e0, he0, rfl⟩ := he
            have := g5 j e0 m he0 hm
            rw [hlen]
            exact ⟨VR.both this.1, VR.both this.2⟩
    · rcases hmu β l hm with ⟨hβ, hm⟩ | ⟨hβ, hm⟩
      · obtain ⟨y, hy⟩ := hs.non β l hm
        exact ⟨y, by rw [List.getElem?_append_left (by omega)]; exact hy⟩
      · obtain ⟨y, hy⟩ := hsr.non _ l hm
        refine ⟨shB h.length y, ?_⟩
        rw [List.getElem?_append_right (by omega), shH_map, List.getElem?_map, hlen, hy]
        rfl
    · rcases hmu β l h1 with ⟨b1, m1⟩ | ⟨b1, m1⟩
      · rcases hmu β' l' h2 with ⟨b2, m2⟩ | ⟨b2, m2⟩
        · exact hs.dis β β' l l' b o m1 m2 o1 o2
        · exact absurd o2 ((hsr.old b o (hold1 β l b o m1 o1)).2.2 _ l' m2)
      · rcases hmu β' l' h2 with ⟨b2, m2⟩ | ⟨b2, m2⟩
        · exact absurd o1 ((hsr.old b o (hold1 β' l' b o m2 o2)).2.2 _ l m1)
        · have := hsr.dis _ _ l l' b o m1 m2 o1 o2
          omega
    · rcases hmu β l hm with ⟨b1, m1⟩ | ⟨b1, m1⟩
      · exact (hsr.old b o (hold1 β l b o m1 ho)).2.1
      · exact hsr.dfr _ l b o m1 ho
    · rcases hmu β l hm with ⟨b1, m1⟩ | ⟨b1, m1⟩
      · exact (hs.old b o ho).2.2 β l m1 ho'
      · exact (hsr.old b o (hold2 b o ho)).2.2 _ l m1 ho'
    · rcases hmu β l hm with ⟨b1, m1⟩ | ⟨b1, m1⟩
      · exact (hs.hid b o ho).2.2 β l m1
      · exact (hsr.hid b o (hhid ▸ ho)).2.2 _ l m1
  · cases r0 with
    | ret a =>
      cases e with
      | returned u => have := VR.both (E := E) hr; rw [← hlen] at this; exact this
      | panicked l => exact hr.elim
      | outgrown => exact hr.elim
    | pan a =>
      cases e with
      | returned u => exact hr.elim
      | outgrown => exact hr.elim
      | panicked l =>
        obtain ⟨v, hv, rfl⟩ := hr
        have := VR.both (E := E) hv
        rw [← hlen] at this
        exact ⟨v, this, rfl⟩
end Go.Vs
