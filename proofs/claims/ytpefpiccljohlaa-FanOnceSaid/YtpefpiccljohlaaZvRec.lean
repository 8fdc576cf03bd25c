/- Deferred functions that recover. -/
import Derived.Test.YtpefpiccljohlaaZvFun
namespace Go.Vs
open Go.RowKit
set_option linter.unusedSimpArgs false
set_option linter.unusedVariables false

inductive MS where
  | none
  | pend (v : V)
  | recd (v : V)

def vopS (x : X) (o : A) (Q : Ex → St → MS → Prop) (K : St → MS → Prop) (s : St) (m : MS) : Prop :=
  match o.i with
  | .recov => if wanted s.t o.g = true then (match m with
    | .pend v => K { s with t := put s.t o.dst v } (.recd v)
    | m => K { s with t := put s.t o.dst .nifc } m) else K { s with t := put s.t o.dst udf } m
  | _ => vop x o (fun e s => Q e s m) (fun s => K s m) s

def vopsS (x : X) (Q : Ex → St → MS → Prop) : List A → St → MS → Prop
  | [], s, m => Q .normal s m
  | o :: r, s, m => vopS x o Q (vopsS x Q r) s m

def vcS (x : X) : C → (Ex → St → MS → Prop) → St → MS → Prop
  | .reg ops, Q, s, m => vopsS x Q ops s m
  | .seq a b, Q, s, m => vcS x a (fun e s m => match e with | .normal => vcS x b Q s m | e => Q e s m) s m
  | .cond c a b, Q, s, m => match c.ev x s.t with
    | .bool true => vcS x a Q s m
    | .bool false => vcS x b Q s m
    | _ => False
  | c, Q, s, m => vc x c (fun e s => Q e s m) s

def isRecov (o : Op) (i : I) : Bool := match o, i with
  | .call c, .recov => (match c.callee with | .builtin .recover => true | _ => false)
  | _, _ => false

def ckAS (P : Program) (N : Nat) (ops : Array Oper) (o : Oper) (b : A) : Bool :=
  if isRecov o.op b.i then o.dst == b.dst && (match b.dst with | some d => decide (d < N) | none => true) &&
  (match o.guard, b.g with
   | none, none => true
   | some (j, w), some (d, w') => w == w' && decide (d < N) && ((ops[j]?).bind (·.dst)) == some d
   | _, _ => false) else ckA P N ops o b

def ckAsS (P : Program) (N : Nat) (ops : Array Oper) : List Oper → List A → Bool
  | [], [] => true
  | o :: r, b :: s => ckAS P N ops o b && ckAsS P N ops r s
  | _, _ => false

def ckCS (P : Program) (N : Nat) : Code → C → Bool
  | .region _ ops false, .reg as => ckAsS P N ops ops.toList as
  | .seq a b, .seq c d => ckCS P N a c && ckCS P N b d
  | .cond p a b, .cond o c d => ckO p o && ckCS P N a c && ckCS P N b d
  | c, d => ckC P N c d

def ckFS (P : Program) (f : FuncId) (F : Fun) : Bool := match P.funcs[f]? with
  | some fn => fn.ntmps == F.n && decide (F.np ≤ F.n) && (match fn.body with | some c => ckCS P F.n c F.c | none => false) && ckRs P fn.results.toList F.rs && fn.name != "runtime.NumGoroutine"
  | none => false

def msMode (m : MS) (pv : Option Value) (fm : FrameMode) (E : Env) : Prop := match m with
  | .none => pv = none ∧ fm = .returning
  | .pend v => ∃ u, pv = some u ∧ VR E v u ∧ fm = .panicking [entry u]
  | .recd _ => ∃ u, pv = some u ∧ fm = .panicking [{ v := u, recovered := true }]

theorem msMode.mono {m : MS} {pv : Option Value} {fm : FrameMode} {E E' : Env} (hE : Le E E') (h : msMode m pv fm E) : msMode m pv fm E' := by
  cases m with
  | none => exact h
  | pend v => obtain ⟨u, h1, h2, h3⟩ := h; exact ⟨u, h1, h2.mono hE, h3⟩
  | recd v => exact h

def LiftS (x : X) (w0 : World) (N : Nat) (E : Env) (c0 : Frame) (cs : List Frame) (pv : Option Value) (Q : Ex → St → MS → Prop) : Exit → Act → List Frame → World → Prop :=
  fun e a cs' w => ∃ E' s y m fm, Le E E' ∧ SRel x w0 N E' s a w ∧ ExR E' y e ∧ msMode m pv fm E ∧ cs' = { c0 with mode := fm } :: cs ∧ Q y s m

section
variable {x : X} {w0 w : World} {N : Nat} {E : Env} {s : St} {a : Act} {c0 : Frame} {cs : List Frame} {pv : Option Value}

theorem wanted_specS (H : SRel x w0 N E s a w) {ops : Array Oper} {o : Oper} {b : A} (hg : (match o.guard, b.g with
   | none, none => true
   | some (j, w), some (d, w') => w == w' && decide (d < N) && ((ops[j]?).bind (·.dst)) == some d
   | _, _ => false) = true) : Region.wanted o (yielded ops a.tmps) = Vs.wanted s.t b.g := by
  unfold Region.wanted Vs.wanted
  cases h1 : o.guard with
  | none =>
    rw [h1] at hg
    cases h2 : b.g with
    | none => rfl
    | some g => rw [h2] at hg; simp at hg
  | some jw =>
    obtain ⟨j, wt⟩ := jw
    rw [h1] at hg
    cases h2 : b.g with
    | none => rw [h2] at hg; simp at hg
    | some g =>
      obtain ⟨d, wt'⟩ := g
      rw [h2] at hg
      simp only [Bool.and_eq_true, beq_iff_eq, decide_eq_true_eq] at hg
      obtain ⟨⟨rfl, hd⟩, hj⟩ := hg
      simp only [yielded, hj, Option.bind_some]
      have hv := H.tm d
      have hlt : d < a.tmps.size := by rw [H.sz]; exact hd
      have hget : a.tmps[d]? = some (a.tmps.getD d undef) := by
        simp only [Array.getD_eq_getD_getElem?, Array.getElem?_eq_getElem hlt, Option.getD_some]
      rw [hget]
      generalize a.tmps.getD d undef = u at hv
      generalize s.t d = y at hv
      cases hv <;> simp

theorem recoverD_pend {c0 : Frame} {cs : List Frame} {u : Value} : recoverD ({ c0 with mode := .panicking [entry u] } :: cs) = some (u, { c0 with mode := .panicking [{ v := u, recovered := true }] } :: cs) := rfl
theorem recoverD_none {c0 : Frame} {cs : List Frame} : recoverD ({ c0 with mode := .returning } :: cs) = none := rfl
theorem recoverD_recd {c0 : Frame} {cs : List Frame} {u : Value} : recoverD ({ c0 with mode := .panicking [{ v := u, recovered := true }] } :: cs) = none := rfl

theorem upon_mono {P : Program} {o : Oper} {a : Act} {next : Act → World → Prop} {Q Q' : Exit → Act → World → Prop} {r : Result Next} (h : o.upon P a next Q r) (hq : ∀ e a' w', Q e a' w' → Q' e a' w') : o.upon P a next Q' r := by
  unfold Oper.upon at h ⊢
  split at h
  · exact h
  · exact h
  · exact h
  · refine h.mono fun e w' he => ?_
    cases e with
    | returned v => exact he
    | panicked l => exact hq _ _ _ he
    | outgrown => obtain ⟨a₀, w₀, hh⟩ := he; exact ⟨a₀, w₀, hq _ _ _ hh⟩
  · exact h
  · exact hq _ _ _ h
  · exact h.elim

theorem vopsS_sound (hx : XOk x) {ops : Array Oper} {Q : Ex → St → MS → Prop} {E0 : Env} : ∀ (l : List Oper) (bs : List A) (k : Nat) (E : Env) (s : St) (m : MS) (fm : FrameMode) (a : Act) (w : World), (∀ j, l[j]? = ops[k + j]?) → Le E0 E → ckAsS x.P N ops l bs = true → SRel x w0 N E s a w → msMode m pv fm E0 →
    vopsS x Q bs s m → wpOpsS x.P ops (LiftS x w0 N E0 c0 cs pv Q) (List.range' k l.length) a ({ c0 with mode := fm } :: cs) w
  | [], [], k, E, s, m, fm, a, w, _, hE, _, H, hm, h => ⟨E, s, .normal, m, fm, hE, H, trivial, hm, rfl, h⟩
  | o :: l, b :: bs, k, E, s, m, fm, a, w, hl, hE, hc, H, hm, h => by
    simp only [ckAsS, Bool.and_eq_true] at hc
    have ho : ops[k]? = some o := by simpa using (hl 0).symm
    have hl' : ∀ j, l[j]? = ops[k + 1 + j]? := fun j => by have := hl (j + 1); simpa [Nat.add_assoc, Nat.add_comm 1 j] using this
    simp only [List.length_cons, List.range'_succ, wpOpsS, ho]
    simp only [vopsS, vopS] at h
    by_cases hr : isRecov o.op b.i = true
    · have hck := hc.1
      simp only [ckAS, hr, if_true, Bool.and_eq_true, beq_iff_eq] at hck
      obtain ⟨⟨hdst, hd⟩, hg⟩ := hck
      have hdlt : ∀ k, o.dst = some k → k < N := fun k hk => by
        rw [hdst] at hk
        rw [hk] at hd
        simpa using hd
      have hw := wanted_specS H hg
      rw [hw]
      obtain ⟨c, hop, hbi, hcal⟩ : ∃ c, o.op = .call c ∧ b.i = .recov ∧ c.callee = .builtin .recover := by
        unfold isRecov at hr
        split at hr
        · rename_i c hoo hbb
          split at hr
          · rename_i hcc; exact ⟨c, hoo, hbb, hcc⟩
          · cases hr
        · cases hr
      rw [hbi] at h
      simp only at h
      have hrun : (execOp a.eval o).run x.P w = .ok .recover w := by
        simp only [execOp, hop, resolve, hcal]
        rfl
      by_cases hwt : Vs.wanted s.t b.g = true
      · rw [if_pos hwt] at h ⊢
        rw [hrun]
        simp only
        cases m with
        | none =>
          obtain ⟨_, rfl⟩ := hm
          rw [recoverD_none]
          simp only at h ⊢
          rw [← hdst] at h
          exact vopsS_sound hx l bs (k + 1) E _ .none .returning _ w hl' hE hc.2 (H.put (Le.refl E) H.sr hdlt .nifc) ⟨‹_›, rfl⟩ h
        | pend v =>
          obtain ⟨u, hpv, hvr, rfl⟩ := hm
          rw [recoverD_pend]
          simp only at h ⊢
          rw [← hdst] at h
          exact vopsS_sound hx l bs (k + 1) E _ (.recd v) _ _ w hl' hE hc.2 (H.put (Le.refl E) H.sr hdlt (hvr.mono hE)) ⟨u, hpv, rfl⟩ h
        | recd v =>
          obtain ⟨u, hpv, rfl⟩ := hm
          rw [recoverD_recd]
          simp only at h ⊢
          rw [← hdst] at h
          exact vopsS_sound hx l bs (k + 1) E _ (.recd v) _ _ w hl' hE hc.2 (H.put (Le.refl E) H.sr hdlt .nifc) ⟨u, hpv, rfl⟩ h
      · rw [if_neg hwt] at h ⊢
        rw [← hdst] at h
        exact vopsS_sound hx l bs (k + 1) E _ m fm _ w hl' hE hc.2 (H.put (Le.refl E) H.sr hdlt (udf_vr E)) hm h
    · have hck : ckA x.P N ops o b = true := by have := hc.1; simp only [ckAS, hr] at this; exact this
      have hh : vop x b (fun e s => Q e s m) (fun s => vopsS x Q bs s m) s := by
        cases hbi : b.i <;> simp only [hbi] at h <;> first
          | exact h
          | skip
        have hck2 := hck
        simp only [ckA, hbi, Bool.and_eq_true] at hck2
        have h3 := hck2.1.2
        exfalso
        revert h3
        cases hop : o.op <;> simp [ckI]
      have hw := wanted_spec H hck
      have := vop_sound (K' := fun a' w' => wpOpsS x.P ops (LiftS x w0 N E0 c0 cs pv Q) (List.range' (k + 1) l.length) a' ({ c0 with mode := fm } :: cs) w') hx H hck hE
        (fun E' s' a' w' hE' H' hk => vopsS_sound hx l bs (k + 1) E' s' m fm a' w' hl' (hE.trans hE') hc.2 H' hm hk) hh
      by_cases hwt : Region.wanted o (yielded ops a.tmps) = true
      · rw [if_pos hwt] at this ⊢
        unfold Oper.wp at this
        generalize (execOp a.eval o).run x.P w = r at this ⊢
        split
        · exact this.elim
        · exact upon_mono this fun e a' w' ⟨E', s', y, h1, h2, h3, h4⟩ => ⟨E', s', y, m, fm, h1, h2, h3, hm, rfl, h4⟩
      · rw [if_neg hwt] at this ⊢
        exact this
  | [], _ :: _, _, _, _, _, _, _, _, _, _, hc, _, _, _ => by simp [ckAsS] at hc
  | _ :: _, [], _, _, _, _, _, _, _, _, _, hc, _, _, _ => by simp [ckAsS] at hc

theorem wpS_mono {P : Program} {c : Code} {Q R : Exit → Act → List Frame → World → Prop} {a : Act} {cs : List Frame} {w : World} (h : c.wpS P Q a cs w) (hq : ∀ e a cs w, Q e a cs w → R e a cs w) : c.wpS P R a cs w :=
  fun b k hb hr => let ⟨e, a', cs', w', q, r⟩ := h b k hb hr; ⟨e, a', cs', w', hq _ _ _ _ q, r⟩

theorem wpS_of_vc (hx : XOk x) {E0 : Env} {c : Code} {d : C} {Q : Ex → St → MS → Prop} {m : MS} {fm : FrameMode} (hc : ckC x.P N c d = true) (hE : Le E0 E) (H : SRel x w0 N E s a w) (hm : msMode m pv fm E0) (h : vc x d (fun e s => Q e s m) s) :
    c.wpS x.P (LiftS x w0 N E0 c0 cs pv Q) a ({ c0 with mode := fm } :: cs) w :=
  wpS_of_wp (wp_mono (vc_sound hx c d _ E0 E s a w hc hE H h) fun e a' w' ⟨E', s', y, h1, h2, h3, h4⟩ => ⟨E', s', y, m, fm, h1, h2, h3, hm, rfl, h4⟩)

theorem vcS_sound (hx : XOk x) {E0 : Env} : ∀ (d : C) (c : Code) (Q : Ex → St → MS → Prop) (E : Env) (s : St) (m : MS) (fm : FrameMode) (a : Act) (w : World), ckCS x.P N c d = true → Le E0 E → SRel x w0 N E s a w → msMode m pv fm E0 → vcS x d Q s m →
    c.wpS x.P (LiftS x w0 N E0 c0 cs pv Q) a ({ c0 with mode := fm } :: cs) w := by
  intro d
  induction d with
  | seq d1 d2 ih1 ih2 =>
    intro c Q E s m fm a w hc hE H hm h
    cases c with
    | seq a1 a2 =>
      simp only [ckCS, Bool.and_eq_true] at hc
      simp only [vcS] at h
      refine wpS_seq (wpS_mono (ih1 a1 _ E s m fm a w hc.1 hE H hm h) fun e a' cs' w' ⟨E', s', y, m', fm', h1, h2, h3, h4, h5, h6⟩ => ?_)
      subst h5
      cases y with
      | normal =>
        cases e <;> try (exact h3.elim)
        exact ih2 a2 Q E' s' m' fm' a' w' hc.2 h1 h2 h4 h6
      | ret => cases e <;> first | exact h3.elim | exact ⟨E', s', .ret, m', fm', h1, h2, h3, h4, rfl, h6⟩
      | pan v => cases e <;> first | exact h3.elim | exact ⟨E', s', .pan v, m', fm', h1, h2, h3, h4, rfl, h6⟩
      | exit i => cases e <;> first | exact h3.elim | exact ⟨E', s', .exit i, m', fm', h1, h2, h3, h4, rfl, h6⟩
    | _ => simp [ckCS, ckC] at hc
  | cond o d1 d2 ih1 ih2 =>
    intro c Q E s m fm a w hc hE H hm h
    cases c with
    | cond p a1 a2 =>
      simp only [ckCS, Bool.and_eq_true] at hc
      simp only [vcS] at h
      have hv := ckO_spec (x := x) H.gr H.tm hc.1.1
      generalize hu : a.eval p = u at hv
      split at h
      · rename_i hb
        rw [hb] at hv
        cases hv
        exact wpS_cond (t := true) hu (ih1 a1 Q E s m fm a w hc.1.2 hE H hm h)
      · rename_i hb
        rw [hb] at hv
        cases hv
        exact wpS_cond (t := false) hu (ih2 a2 Q E s m fm a w hc.2 hE H hm h)
      · exact h.elim
    | _ => simp [ckCS, ckC] at hc
  | reg as =>
    intro c Q E s m fm a w hc hE H hm h
    cases c with
    | region i ops b =>
      cases b with
      | false =>
        simp only [ckCS] at hc
        refine wpS_region ?_
        have := vopsS_sound (c0 := c0) (cs := cs) (pv := pv) (Q := Q) hx (ops := ops) ops.toList as 0 E s m fm a w (fun j => by simp) hE hc H hm h
        simpa [List.range_eq_range'] using this
      | true => simp [ckCS, ckC] at hc
    | _ => simp [ckCS, ckC] at hc
  | _ =>
    intro c Q E s m fm a w hc hE H hm h
    simp only [vcS] at h
    refine wpS_of_vc hx ?_ hE H hm h
    cases c with
    | region i ops b => cases b <;> exact hc
    | _ => exact hc

theorem ckFS_spec {P : Program} {f : FuncId} {F : Fun} (hc : ckFS P f F = true) : ∃ fn c, P.funcs[f]? = some fn ∧ fn.body = some c ∧ fn.ntmps = F.n ∧ F.np ≤ F.n ∧ ckCS P F.n c F.c = true ∧ ckRs P fn.results.toList F.rs = true ∧ callable P f = true := by
  unfold ckFS at hc
  split at hc
  · rename_i fn hf
    simp only [Bool.and_eq_true, beq_iff_eq, decide_eq_true_eq, bne_iff_ne, ne_eq] at hc
    obtain ⟨⟨⟨⟨h1, h2⟩, h3⟩, h4⟩, h5⟩ := hc
    split at h3
    · rename_i c hb
      exact ⟨fn, c, hf, hb, h1, h2, h3, h4, by simp [callable, hf, hb, h5]⟩
    · cases h3
  · cases hc

def MS.was : MS → Bool
  | .recd _ => true
  | _ => false

/-- What is left behind the body of a deferred function, which defers nothing itself. -/
def postS (x : X) (F : Fun) (R : Bool → Hp → Prop) : Ex → St → MS → Prop
  | .normal, s, m => s.d = [] ∧ (∃ v, resV F.rs s.t s.h = some v) ∧ R m.was s.h
  | .ret, s, m => s.d = [] ∧ (∃ v, resV F.rs s.t s.h = some v) ∧ R m.was s.h
  | _, _, _ => False

def msOf : Option V → MS
  | none => .none
  | some v => .pend v

theorem acallsD_of (hx : XOk x) {f : FuncId} {F : Fun} (hc : ckFS x.P f F = true) {args : List V} (hn : args.length = F.np) {h : Hp} {p : Option V} {R : Bool → Hp → Prop} (hv : vcS x F.c (postS x F R) { t := start args, h, d := [] } (msOf p)) : ACallsD x f args h p R := by
  obtain ⟨fn, c, hf, hb, h1, h2, h3, h4, h5⟩ := ckFS_spec hc
  refine ⟨h5, fun w0 E w vs pv hs hg hvs hp hp' => callsD_of_wpS hf hb fun c₀ cs hmode => ?_⟩
  have hst := SRel.start (N := F.n) hs hg hvs (by omega)
  rw [h1]
  have hm : msMode (msOf p) pv (mode pv) E := by
    cases p with
    | none => rw [hp' rfl]; exact ⟨rfl, rfl⟩
    | some v => obtain ⟨u, rfl, hvr⟩ := hp v rfl; exact ⟨u, rfl, hvr, rfl⟩
  have hc0 : c₀ = { c₀ with mode := mode pv } := by rw [← hmode]
  have hsound := vcS_sound (c0 := c₀) (cs := cs) (pv := pv) (w0 := w0) hx F.c c (postS x F R) E _ (msOf p) (mode pv) _ w h3 (Le.refl E) hst hm hv
  rw [← hc0] at hsound
  refine wpS_mono hsound fun e a cs' w' ⟨E', s', y, m', fm', hE, H, hy, hm', hcs, hq⟩ => ?_
  have hdf : s'.d = [] → a.defers = [] := fun hd => by
    have := H.df.1
    rw [hd] at this
    exact List.eq_nil_of_length_eq_zero (by simpa using this)
  have key : s'.d = [] ∧ (∃ v, resV F.rs s'.t s'.h = some v) ∧ R m'.was s'.h →
      a.defers = [] ∧ ∃ u', cs' = { c₀ with mode := u' } :: cs ∧ ∃ v, (results fn a.tmps).run x.P w' = .ok v w' ∧
        ∃ E' h' rc, Le E E' ∧ SR w0 E' h' w' ∧ (∃ r, Ending.returned v = .returned r) ∧ ((rc = false ∧ u' = mode pv) ∨ (rc = true ∧ ∃ v, pv = some v ∧ u' = .panicking [{ v, recovered := true }])) ∧ R rc h' := by
    rintro ⟨hd, ⟨v, hr⟩, hR⟩
    obtain ⟨u, hu, hvr⟩ := results_spec (x := x) H.sr H.tm h4 hr
    refine ⟨hdf hd, fm', hcs, u, hu, E', s'.h, _, hE, H.sr, ⟨u, rfl⟩, ?_, hR⟩
    cases m' with
    | none => obtain ⟨rfl, rfl⟩ := hm'; exact .inl ⟨rfl, rfl⟩
    | pend v => obtain ⟨u, rfl, _, rfl⟩ := hm'; exact .inl ⟨rfl, rfl⟩
    | recd v => obtain ⟨u, rfl, rfl⟩ := hm'; exact .inr ⟨rfl, u, rfl, rfl⟩
  cases y with
  | normal => cases e <;> first | exact hy.elim | exact key hq
  | ret => cases e <;> first | exact hy.elim | exact key hq
  | pan v => exact hq.elim
  | exit i => exact hq.elim
end
end Go.Vs
