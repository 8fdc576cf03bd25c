/- A function's call, out of its code. -/
import Derived.Test.YtpefpiccljohlaaZvSound
namespace Go.Vs
open Go.RowKit

inductive RV where
  | t (n : Nat)
  | c (n k : Nat) (ag : Bool)
  deriving Inhabited

structure Fun where
  n : Nat
  np : Nat
  rs : List RV
  c : C
  deriving Inhabited

def RV.get (t : Nat → V) (h : Hp) : RV → Option V
  | .t n => some (t n)
  | .c n k ag => (rd h (t n) k).bind (asV ag)

def getAll (t : Nat → V) (h : Hp) : List RV → Option (List V)
  | [] => some []
  | r :: rs => match r.get t h, getAll t h rs with
    | some v, some vs => some (v :: vs)
    | _, _ => none

def resV (rs : List RV) (t : Nat → V) (h : Hp) : Option V := match getAll t h rs with
  | some [v] => some v
  | some vs => some (.tup vs)
  | none => none

def ckRs (P : Program) : List ResultVar → List RV → Bool
  | [], [] => true
  | .tmp a :: r, .t b :: s => a == b && ckRs P r s
  | .cell a t :: r, .c b k ag :: s => a == b && tSize P t == some k && tAg P t == some ag && ckRs P r s
  | _, _ => false

def ckF (P : Program) (f : FuncId) (F : Fun) : Bool := match P.funcs[f]? with
  | some fn => fn.ntmps == F.n && decide (F.np ≤ F.n) && (match fn.body with | some c => ckC P F.n c F.c | none => false) && ckRs P fn.results.toList F.rs && fn.name != "runtime.NumGoroutine"
  | none => false

section
variable {x : X} {w0 w : World} {E : Env} {h : Hp}

def oneRes (tmps : Array Value) : ResultVar → Sem Value
  | .tmp t => pure (tmps.getD t undef)
  | .cell a t => do loadVar t (← asAddr (tmps.getD a undef))

theorem getAll_spec (H : SR w0 E h w) {t : Nat → V} {tmps : Array Value} (ht : ∀ n, VR E (t n) (tmps.getD n undef)) : ∀ {l : List ResultVar} {rs : List RV} {vs : List V}, ckRs x.P l rs = true → getAll t h rs = some vs →
    ∃ us : List Value, us.length = vs.length ∧ (l.mapM (oneRes tmps)).run x.P w = .ok us w ∧ ∀ (j : Nat) y v, vs[j]? = some y → us[j]? = some v → VR E y v
  | [], [], vs, _, hg => by
    simp only [getAll, Option.some.injEq] at hg
    subst hg
    exact ⟨[], rfl, rfl, fun j y v hy => by simp at hy⟩
  | .tmp a :: r, .t b :: s, vs, hc, hg => by
    simp only [ckRs, Bool.and_eq_true, beq_iff_eq] at hc
    obtain ⟨rfl, hc⟩ := hc
    simp only [getAll, RV.get] at hg
    split at hg
    · rename_i v vs' hv hvs
      cases hg; cases hv
      obtain ⟨us, h1, h2, h3⟩ := getAll_spec H ht hc hvs
      refine ⟨tmps.getD a undef :: us, by simp [h1], ?_, fun j y v hy hv => ?_⟩
      · simp only [List.mapM_cons, oneRes, Sem.run_bind, Sem.run_pure, Result.andThen_ok, h2]
      · cases j with
        | zero => simp only [List.getElem?_cons_zero, Option.some.injEq] at hy hv; subst hy; subst hv; exact ht a
        | succ j => exact h3 j y v (by simpa using hy) (by simpa using hv)
    · cases hg
  | .cell a tt :: r, .c b k ag :: s, vs, hc, hg => by
    simp only [ckRs, Bool.and_eq_true, beq_iff_eq] at hc
    obtain ⟨⟨⟨rfl, hk⟩, hag⟩, hc⟩ := hc
    simp only [getAll, RV.get] at hg
    split at hg
    · rename_i v vs' hv hvs
      cases hg
      simp only [Option.bind_eq_some_iff] at hv
      obtain ⟨l, hl, hv⟩ := hv
      obtain ⟨us, h1, h2, h3⟩ := getAll_spec H ht hc hvs
      obtain ⟨b, p, ws, hp, hrow, hln⟩ := rd_row H (ht a) hl
      have hload : ∃ u, (loadVar tt ⟨b, p, none⟩).run x.P w = .ok u w ∧ VR E v u := by
        have hd := does_load (x := x) (a := t a) (u := .pointer (some ⟨b, p, none⟩)) H hk hag (by rw [← hp]; exact ht a) hl hv
        obtain ⟨u, E', w', _, hr, hvr, _⟩ := hd
        rcases asV_spec hv with ⟨rfl, rfl⟩ | ⟨rfl, rfl⟩
        · have hll := hrow.loads (P := x.P)
          rw [hln] at hll
          exact ⟨_, by simp [loadVar, run_isAgg hag, run_size hk, hll], hrow.agg⟩
        · have h1 : 0 < ws.length := by rw [hrow.1]; simp
          have h0 := hrow.2 0 ws[0] (List.getElem?_eq_getElem h1)
          have hc := h0.1
          simp only [Nat.add_zero] at hc
          exact ⟨_, by simp [loadVar, run_isAgg hag, hc], h0.2.2 v rfl⟩
      obtain ⟨u, hr, hvr⟩ := hload
      refine ⟨u :: us, by simp [h1], ?_, fun j y v' hy hv' => ?_⟩
      · have ha : (asAddr (.pointer (some ⟨b, p, none⟩))).run x.P w = .ok ⟨b, p, none⟩ w := rfl
        simp only [List.mapM_cons, oneRes, Sem.run_bind, hp, ha, Sem.run_pure, Result.andThen_ok, hr, h2]
      · cases j with
        | zero => simp only [List.getElem?_cons_zero, Option.some.injEq] at hy hv'; subst hy; subst hv'; exact hvr
        | succ j => exact h3 j y v' (by simpa using hy) (by simpa using hv')
    · cases hg
  | [], _ :: _, _, hc, _ => by simp [ckRs] at hc
  | .tmp _ :: _, [], _, hc, _ => by simp [ckRs] at hc
  | .cell _ _ :: _, [], _, hc, _ => by simp [ckRs] at hc
  | .tmp _ :: _, .c _ _ _ :: _, _, hc, _ => by simp [ckRs] at hc
  | .cell _ _ :: _, .t _ :: _, _, hc, _ => by simp [ckRs] at hc

theorem results_spec (H : SR w0 E h w) {t : Nat → V} {tmps : Array Value} (ht : ∀ n, VR E (t n) (tmps.getD n undef)) {fn : Func} {rs : List RV} {v : V} (hc : ckRs x.P fn.results.toList rs = true) (hg : resV rs t h = some v) :
    ∃ u, (results fn tmps).run x.P w = .ok u w ∧ VR E v u := by
  unfold resV at hg
  cases hga : getAll t h rs with
  | none => rw [hga] at hg; cases hg
  | some vs =>
    obtain ⟨us, h1, h2, h3⟩ := getAll_spec (x := x) H ht hc hga
    rw [hga] at hg
    have hrun : (results fn tmps).run x.P w = .ok (if hh : us.toArray.size = 1 then us.toArray[0] else .tuple us.toArray) w := by
      have he : results fn tmps = (do let vs ← fn.results.mapM (oneRes tmps); pure (if h : vs.size = 1 then vs[0] else .tuple vs)) := rfl
      rw [he, Array.mapM_eq_mapM_toList]
      simp only [Sem.run_bind, Sem.run_map, h2, Result.andThen_ok]
      rfl
    rw [hrun]
    match vs, us, h1, h3, hg with
    | [y], [u], _, h3, hg =>
      simp only [Option.some.injEq] at hg
      subst hg
      exact ⟨u, by simp, h3 0 y u rfl rfl⟩
    | [], [], _, h3, hg =>
      simp only [Option.some.injEq] at hg
      subst hg
      exact ⟨.tuple #[], by simp, .tup _ _ rfl (fun j x v hx => by simp at hx)⟩
    | y :: z :: r, u :: u' :: r', h1, h3, hg =>
      simp only [Option.some.injEq] at hg
      subst hg
      exact ⟨.tuple (u :: u' :: r').toArray, by simp, .tup _ _ (by simpa using h1) (fun j x v hx hv => h3 j x v hx (by simpa using hv))⟩

def start (args : List V) : Nat → V := fun n => args.getD n udf

theorem SRel.start {N : Nat} (H : SR w0 E h w) (hg : GR x E) {args : List V} {vs : Array Value} (hv : VRs E args vs) (hn : args.length ≤ N) :
    SRel x w0 N E { t := Vs.start args, h, d := [] } { tmps := vs ++ Array.replicate (N - vs.size) undef, defers := [] } w := by
  refine ⟨H, hg, fun n => ?_, ?_, rfl, fun j d u hd => by simp at hd⟩
  · simp only [Vs.start, Array.getD_eq_getD_getElem?, List.getD]
    rcases Nat.lt_or_ge n vs.size with h1 | h1
    · rw [Array.getElem?_append_left h1, Array.getElem?_eq_getElem h1]
      have h2 : n < args.length := by rw [← hv.1]; exact h1
      rw [List.getElem?_eq_getElem h2]
      exact hv.2 n _ _ (List.getElem?_eq_getElem h2) (Array.getElem?_eq_getElem h1)
    · rw [Array.getElem?_append_right h1, List.getElem?_eq_none (by rw [← hv.1]; exact h1), Array.getElem?_replicate]
      split <;> exact udf_vr E
  · simp [hv.1]; omega

/-- What is left behind the body of a function that defers nothing. -/
def post (F : Fun) (R : Res → Hp → Prop) : Ex → St → Prop
  | .normal, s => s.d = [] ∧ ∃ v, resV F.rs s.t s.h = some v ∧ R (.ret v) s.h
  | .ret, s => s.d = [] ∧ ∃ v, resV F.rs s.t s.h = some v ∧ R (.ret v) s.h
  | .pan v, s => s.d = [] ∧ R (.pan v) s.h
  | .exit _, _ => False

theorem ckF_spec {P : Program} {f : FuncId} {F : Fun} (hc : ckF P f F = true) : ∃ fn c, P.funcs[f]? = some fn ∧ fn.body = some c ∧ fn.ntmps = F.n ∧ F.np ≤ F.n ∧ ckC P F.n c F.c = true ∧ ckRs P fn.results.toList F.rs = true ∧ callable P f = true := by
  unfold ckF at hc
  split at hc
  · rename_i fn hf
    simp only [Bool.and_eq_true, beq_iff_eq, decide_eq_true_eq, bne_iff_ne, ne_eq] at hc
    obtain ⟨⟨⟨⟨h1, h2⟩, h3⟩, h4⟩, h5⟩ := hc
    split at h3
    · rename_i c hb
      exact ⟨fn, c, hf, hb, h1, h2, h3, h4, by simp [callable, hf, hb, h5]⟩
    · cases h3
  · cases hc

theorem acalls_of (hx : XOk x) {f : FuncId} {F : Fun} (hc : ckF x.P f F = true) {args : List V} (hn : args.length = F.np) {R : Res → Hp → Prop} (hv : vc x F.c (post F R) { t := start args, h, d := [] }) : ACalls x f args h R := by
  obtain ⟨fn, c, hf, hb, h1, h2, h3, h4, h5⟩ := ckF_spec hc
  refine ⟨h5, fun w0 E w vs hs hg hvs => calls_of_wp hf hb ?_⟩
  have hst := SRel.start (N := F.n) hs hg hvs (by omega)
  rw [h1]
  refine wp_mono (vc_sound hx c F.c (post F R) E E _ _ w h3 (Le.refl E) hst hv) fun e a w' ⟨E', s', y, hE, H, hy, hq⟩ => ?_
  have hdf : s'.d = [] → a.defers = [] := fun hd => by
    have := H.df.1
    rw [hd] at this
    exact List.eq_nil_of_length_eq_zero (by simpa using this)
  cases y with
  | normal =>
    cases e <;> try (exact hy.elim)
    obtain ⟨hd, v, hr, hR⟩ := hq
    obtain ⟨u, hu, hvr⟩ := results_spec (x := x) H.sr H.tm h4 hr
    exact ⟨hdf hd, u, hu, E', s'.h, .ret v, hE, H.sr, hvr, hR⟩
  | ret =>
    cases e <;> try (exact hy.elim)
    obtain ⟨hd, v, hr, hR⟩ := hq
    obtain ⟨u, hu, hvr⟩ := results_spec (x := x) H.sr H.tm h4 hr
    exact ⟨hdf hd, u, hu, E', s'.h, .ret v, hE, H.sr, hvr, hR⟩
  | pan v =>
    cases e <;> try (exact hy.elim)
    obtain ⟨hd, hR⟩ := hq
    exact ⟨hdf hd, E', s'.h, .pan v, hE, H.sr, hy, hR⟩
  | exit i => cases e <;> first | exact hy.elim | exact hq.elim

/-! ### deferred calls -/

/-- Recovered: what its caller panicked with is no more. -/
def ACallsD (x : X) (f : FuncId) (args : List V) (h : Hp) (p : Option V) (R : Bool → Hp → Prop) : Prop :=
  callable x.P f = true ∧ ∀ (w0 : World) (E : Env) (w : World) (vs : Array Value) (pv : Option Value), SR w0 E h w → GR x E → VRs E args vs → (∀ v, p = some v → ∃ u, pv = some u ∧ VR E v u) → (p = none → pv = none) →
    CallsD x.P f vs (mode pv) w fun e u w' => ∃ E' h' rc, Le E E' ∧ SR w0 E' h' w' ∧ (∃ r, e = .returned r) ∧ ((rc = false ∧ u = mode pv) ∨ (rc = true ∧ ∃ v, pv = some v ∧ u = .panicking [{ v, recovered := true }])) ∧ R rc h'

def leave (x : X) (F : Fun) (t : Nat → V) (R : Res → Hp → Prop) : List (FuncId × List V) → Option V → Hp → Prop
  | [], none, h => ∃ v, resV F.rs t h = some v ∧ R (.ret v) h
  | [], some v, h => R (.pan v) h
  | (f, args) :: ds, p, h => ACallsD x f args h p fun rc h' => leave x F t R ds (if rc then none else p) h'

def postD (x : X) (F : Fun) (R : Res → Hp → Prop) : Ex → St → Prop
  | .normal, s => leave x F s.t R s.d none s.h
  | .ret, s => leave x F s.t R s.d none s.h
  | .pan v, s => leave x F s.t R s.d (some v) s.h
  | .exit _, _ => False

theorem leave_spec {E0 : Env} {F : Fun} {fn : Func} (h4 : ckRs x.P fn.results.toList F.rs = true) {t : Nat → V} {tmps : Array Value} {R : Res → Hp → Prop} : ∀ (ds : List (FuncId × List V)) (us : List Deferred) (p : Option V) (pv : Option Value) (E : Env) (h : Hp) (w : World), Le E0 E → SR w0 E h w → GR x E → (∀ n, VR E (t n) (tmps.getD n undef)) → DR E ds us →
    (∀ v, p = some v → ∃ u, pv = some u ∧ VR E v u) → (p = none → pv = none) → leave x F t R ds p h →
    Leaves x.P fn tmps (fun e w' => ∃ E' h' r, Le E0 E' ∧ SR w0 E' h' w' ∧ RR E' r e ∧ R r h') us (mode pv) w
  | [], us, p, pv, E, h, w, hE, H, hg, ht, hd, hp, hp', hl => by
    have hus : us = [] := List.eq_nil_of_length_eq_zero (by have := hd.1; simpa using this)
    subst hus
    cases p with
    | none =>
      rw [hp' rfl]
      obtain ⟨v, hr, hR⟩ := hl
      obtain ⟨u, hu, hvr⟩ := results_spec (x := x) H ht h4 hr
      exact ⟨u, hu, E, h, .ret v, hE, H, hvr, hR⟩
    | some v =>
      obtain ⟨u, rfl, hvr⟩ := hp v rfl
      exact ⟨E, h, .pan v, hE, H, ⟨u, hvr, rfl⟩, hl⟩
  | (f, args) :: ds, us, p, pv, E, h, w, hE, H, hg, ht, hd, hp, hp', hl => by
    match us, hd with
    | [], hd => have := hd.1; simp at this
    | d :: us, hd =>
      obtain ⟨cap, htar, hvs⟩ := hd.2 0 (f, args) d rfl rfl
      have hcall := hl.2 w0 E w (d.args ++ cap) pv H hg hvs hp hp'
      refine ⟨by cases pv <;> simp [mode], .func f, cap, f, d.args ++ cap, htar, ?_, hcall.mono fun e u w' ⟨E', h', rc, hE', H', ⟨r, hr⟩, hrc, hl'⟩ => ?_⟩
      · rw [htar]; exact callFunc_run hl.1
      · subst hr
        simp only
        have hd' : DR E' ds us := by
          have hd2 : DR E ds us := ⟨by have := hd.1; simpa using this, fun j d' u' h1 h2 => hd.2 (j + 1) d' u' (by simpa using h1) (by simpa using h2)⟩
          exact hd2.mono hE'
        rcases hrc with ⟨rfl, rfl⟩ | ⟨rfl, v, rfl, rfl⟩
        · have hset : settle (mode pv) = mode pv := by cases pv <;> rfl
          rw [hset]
          exact leave_spec h4 ds us p pv E' h' w' (hE.trans hE') H' (hg.mono hE') (fun n => (ht n).mono hE') hd' (fun v hv => let ⟨u, h1, h2⟩ := hp v hv; ⟨u, h1, h2.mono hE'⟩) hp' hl'
        · have hset : settle (.panicking [{ v, recovered := true }]) = mode none := rfl
          rw [hset]
          exact leave_spec h4 ds us none none E' h' w' (hE.trans hE') H' (hg.mono hE') (fun n => (ht n).mono hE') hd' (fun v hv => by cases hv) (fun _ => rfl) hl'

theorem acalls_of_defers (hx : XOk x) {f : FuncId} {F : Fun} (hc : ckF x.P f F = true) {args : List V} (hn : args.length = F.np) {R : Res → Hp → Prop} (hv : vc x F.c (postD x F R) { t := start args, h, d := [] }) : ACalls x f args h R := by
  obtain ⟨fn, c, hf, hb, h1, h2, h3, h4, h5⟩ := ckF_spec hc
  refine ⟨h5, fun w0 E w vs hs hg hvs => calls_of_wp_defers hf hb ?_⟩
  have hst := SRel.start (N := F.n) hs hg hvs (by omega)
  rw [h1]
  refine wp_mono (vc_sound hx c F.c (postD x F R) E E _ _ w h3 (Le.refl E) hst hv) fun e a w' ⟨E', s', y, hE, H, hy, hq⟩ => ?_
  cases y with
  | normal =>
    cases e <;> try (exact hy.elim)
    exact leave_spec h4 s'.d a.defers none none E' s'.h w' hE H.sr H.gr H.tm H.df (fun v hv => by cases hv) (fun _ => rfl) hq
  | ret =>
    cases e <;> try (exact hy.elim)
    exact leave_spec h4 s'.d a.defers none none E' s'.h w' hE H.sr H.gr H.tm H.df (fun v hv => by cases hv) (fun _ => rfl) hq
  | pan v =>
    cases e <;> try (exact hy.elim)
    obtain ⟨u, hvr, rfl⟩ := hy
    exact leave_spec h4 s'.d a.defers (some v) (some u) E' s'.h w' hE H.sr H.gr H.tm H.df (fun v' hv' => by cases hv'; exact ⟨u, rfl, hvr⟩) (fun h => by cases h) hq
  | exit i => cases e <;> first | exact hy.elim | exact hq.elim
end
end Go.Vs
