/- Every instruction does what is told. -/
import Derived.Test.YtpefpiccljohlaaZvRunB
namespace Go.Vs
open Go.RowKit

section
variable {w0 w : World} {E : Env} {h : Hp} {x : X}

theorem run_len {P : Program} {t ty : TypeId} {q : Q} {v r : V} {u : Value} (hq : q = .str ∨ q = .slc ∨ q = .map) (hu : ckQ P t q = true) (H : SR w0 E h w) (hv : VR E v u) (hr : lenV h q v = some r) : ∃ n, (Builtin.len_ #[t] ty #[u]).run P w = .ok n w ∧ VR E r n := by
  obtain ⟨td, hu, hqd⟩ := ckQ_spec hu
  have hshape : (q = .str → td = .string) ∧ (q = .slc → ∃ e, td = .slice e) ∧ (q = .map → ∃ k e, td = .map k e) := by
    refine ⟨fun h => ?_, fun h => ?_, fun h => ?_⟩ <;> subst h <;> cases td <;> simp [qOf] at hqd <;> simp
  unfold lenV at hr
  split at hr
  · split at hr
    · rename_i hq1
      cases hr; cases hv
      have := hshape.1 hq1
      subst this
      exact ⟨_, by simp [Builtin.len_, run_underlying hu, goInt]; rfl, .int _ _⟩
    · cases hr
  · split at hr
    · rename_i hq1
      cases hr; cases hv
      obtain ⟨e, rfl⟩ := hshape.2.1 hq1
      exact ⟨_, by simp [Builtin.len_, run_underlying hu, goInt], .int _ _⟩
    · cases hr
  · split at hr
    · rename_i hq1
      cases hr; cases hv
      obtain ⟨e, rfl⟩ := hshape.2.1 hq1
      exact ⟨_, by simp [Builtin.len_, run_underlying hu, goInt], .int _ _⟩
    · cases hr
  · split at hr
    · rename_i hq1
      cases hr; cases hv
      obtain ⟨e, rfl⟩ := hshape.2.1 hq1
      exact ⟨_, by simp [Builtin.len_, run_underlying hu, goInt], .int _ _⟩
    · cases hr
  · split at hr
    · rename_i hq1
      cases hr; cases hv
      obtain ⟨k, e, rfl⟩ := hshape.2.2 hq1
      exact ⟨_, by simp [Builtin.len_, run_underlying hu, goInt], .int _ _⟩
    · cases hr
  · split at hr
    · rename_i b hq1
      obtain ⟨k, e, rfl⟩ := hshape.2.2 hq1
      split at hr
      · rename_i es hg
        cases hr
        obtain ⟨l, hml, hb⟩ := H.blk b _ (hget_spec hg)
        obtain ⟨hB, h0, hown, ms, clock, hheap, hsz, hpair⟩ := hb
        cases hv with
        | map _ r0 hn hh =>
          have hr0 := hh l hml
          subst hr0
          have hget : (getObj l.b).run P w = .ok (.map ms clock) w := by simp [getObj, Sem.run, hheap]
          exact ⟨_, by simp [Builtin.len_, run_underlying hu, hget, goInt, hsz], .int _ _⟩
      · cases hr
    · cases hr
  · cases hr

theorem max_run {P : Program} {ts : Array TypeId} {t : TypeId} {k k' : IntKind} {a b : Int} : (Builtin.max_ ts t #[.int k a, .int k' b]).run P w = .ok (.int k (if b > a then b else a)) w := run_max_int2 w ts t k k' a b
theorem min_run {P : Program} {ts : Array TypeId} {t : TypeId} {k k' : IntKind} {a b : Int} : (Builtin.min_ ts t #[.int k a, .int k' b]).run P w = .ok (.int k (if b < a then b else a)) w := run_min_int2 w ts t k k' a b

theorem callFunc_run {P : Program} {f : FuncId} {args : Array Value} (hc : callable P f = true) : (callFunc f args).run P w = .ok (.enter f args) w := by
  unfold callable at hc
  cases hf : P.funcs[f]? with
  | none => rw [hf] at hc; cases hc
  | some fn =>
    rw [hf] at hc
    simp only [Option.any_some, Bool.and_eq_true, bne_iff_ne, ne_eq] at hc
    have hb : ¬ fn.body = none := by cases hbb : fn.body <;> simp_all
    simp [callFunc, hf, hc.2, hb]

theorem VRs.of_lists {xs : List V} {vs : List Value} (hl : vs.length = xs.length) (h : ∀ (j : Nat) y v, xs[j]? = some y → vs[j]? = some v → VR E y v) : VRs E xs vs.toArray := ⟨by simpa using hl, fun j y v hy hv => h j y v hy (by simpa using hv)⟩

theorem VRs.append {xs ys : List V} {us vs : Array Value} (h1 : VRs E xs us) (h2 : VRs E ys vs) : VRs E (xs ++ ys) (us ++ vs) := by
  refine ⟨by simp [h1.1, h2.1], fun j y v hy hv => ?_⟩
  rcases Nat.lt_or_ge j us.size with hj | hj
  · rw [Array.getElem?_append_left hj] at hv
    rw [List.getElem?_append_left (by rw [← h1.1]; exact hj)] at hy
    exact h1.2 j y v hy hv
  · rw [Array.getElem?_append_right hj] at hv
    rw [List.getElem?_append_right (by rw [← h1.1]; exact hj), ← h1.1] at hy
    exact h2.2 _ y v hy hv

theorem callV_spec {f : V} {fu : Value} {args : List V} {vs : Array Value} {g : FuncId} {l : List V} (hf : VR E f fu) (ha : VRs E args vs) (hc : callV f args = some (g, l)) :
    ∃ cap as, (Deferred.ofValue fu vs).run x.P w = .ok { target := .fn (.func g) cap, args := as } w ∧ VRs E l (as ++ cap) := by
  unfold callV at hc
  split at hc
  · rename_i f' first cap
    cases hc
    cases hf with
    | fn _ _ _ first' cap' h1 h2 h3 h4 =>
      refine ⟨cap', first' ++ vs, rfl, ?_⟩
      exact (VRs.append (VRs.append ⟨h1, h3⟩ ha) ⟨h2, h4⟩)
  · cases hc

theorem recv_val {P : Program} {t : TypeId} {u : Value} {nm : Option String} {td : TypeDesc} (hu : P.underlying t = some td) (hn : ∀ e, td ≠ .pointer e) : (receiverAt t (.val u) false nm).run P w = .ok u w := by
  unfold receiverAt
  simp only [Sem.run_bind, run_underlying hu, Result.andThen_ok]
  cases td <;> first
    | rfl
    | exact absurd rfl (hn _)

theorem recv_ptr {P : Program} {t : TypeId} {u : Value} {nm : Option String} {e : TypeId} (hu : P.underlying t = some (.pointer e)) : (receiverAt t (.val u) true nm).run P w = .ok u w := by
  unfold receiverAt
  simp only [Sem.run_bind, run_underlying hu, Result.andThen_ok]
  rfl

theorem isPtr_spec {P : Program} {t : TypeId} {b : Bool} (h : isPtr P t = some b) : ∃ td, P.underlying t = some td ∧ (b = true → ∃ e, td = .pointer e) ∧ (b = false → ∀ e, td ≠ .pointer e) := by
  unfold isPtr at h
  cases hu : P.underlying t with
  | none => rw [hu] at h; cases h
  | some td =>
    rw [hu] at h
    simp only [Option.map_some, Option.some.injEq] at h
    refine ⟨td, rfl, fun hb => ?_, fun hb e he => ?_⟩
    · subst hb
      cases td <;> simp at h
      exact ⟨_, rfl⟩
    · subst he; simp at h; rw [hb] at h; cases h

theorem method_run {P : Program} {t : TypeId} {m : String} {f : FuncId} {p : Option Nat} (hc : ckM P t m f p = true) (n : Nat) {v : V} {u : Value} (hv : VR E v u) {r : V} (hr : (p = none ∧ r = v) ∨ ∃ off cs, p = some off ∧ v = .agg cs ∧ cs[off]? = some r) :
    ∃ ru, (method (n + 1) t u m).run P w = .ok (f, ru) w ∧ VR E r ru := by
  unfold ckM at hc
  cases hi : P.info? t with
  | none => rw [hi] at hc; cases hc
  | some i =>
    rw [hi] at hc
    simp only at hc
    cases hrow : i.methods.find? (·.name == m) with
    | none => rw [hrow] at hc; cases hc
    | some row =>
      rw [hrow] at hc
      rcases hr with ⟨rfl, rfl⟩ | ⟨off, cs, rfl, rfl, hr⟩
      · simp only [Bool.and_eq_true] at hc
        obtain ⟨hpath, hfn⟩ := hc
        have hp : row.path.toList = [] := by simpa using hpath
        cases hg : row.func with
        | none => rw [hg] at hfn; cases hfn
        | some gb =>
          obtain ⟨g, b⟩ := gb
          rw [hg] at hfn
          simp only [Bool.and_eq_true, beq_iff_eq] at hfn
          obtain ⟨rfl, hptr⟩ := hfn
          obtain ⟨td, hu, h1, h2⟩ := isPtr_spec hptr
          refine ⟨u, ?_, hv⟩
          simp only [method, typeInfo, Sem.run_bind, run_program, Result.andThen_ok, hi, Sem.run_pure, hrow, hp, follow, hg]
          cases b with
          | true =>
            obtain ⟨e, rfl⟩ := h1 rfl
            rw [recv_ptr hu]; rfl
          | false => rw [recv_val hu (h2 rfl)]; rfl
      · simp only at hc
        have hp2 : ∃ s, row.path.toList = [s] := by
          split at hc
          · rename_i s g b hp hg; exact ⟨s, hp⟩
          · cases hc
        obtain ⟨s, hpath⟩ := hp2
        rw [hpath] at hc
        cases hg : row.func with
        | none => rw [hg] at hc; cases hc
        | some gb =>
          obtain ⟨g, b⟩ := gb
          rw [hg] at hc
          simp only [Bool.and_eq_true, beq_iff_eq, Bool.not_eq_true'] at hc
          obtain ⟨⟨⟨rfl, rfl⟩, hd⟩, hrest⟩ := hc
          split at hrest
          · rename_i fs hu
            split at hrest
            · rename_i fd hfd
              simp only [Bool.and_eq_true, beq_iff_eq] at hrest
              obtain ⟨⟨hoff, hag⟩, hptr⟩ := hrest
              obtain ⟨td, hue, h1, _⟩ := isPtr_spec hptr
              obtain ⟨e, rfl⟩ := h1 rfl
              have hvals := hv.agg_vals
              cases hv with
              | agg _ us hl hh h1' =>
                have hlt : off < us.size := by rw [hl]; exact (List.getElem?_eq_some_iff.1 hr).1
                refine ⟨us[off], ?_, hh off r _ hr (by simp [hlt])⟩
                have hpart : (part fd.type us fd.offset).run P w = .ok us[off] w := by
                  simp [part, run_isAgg hag, hoff, hlt]
                simp only [method, typeInfo, Sem.run_bind, run_program, Result.andThen_ok, hi, Sem.run_pure, hrow, hpath, follow, run_underlying hu, hfd, hd, Bool.false_eq_true, if_false, hpart, hg]
                rw [recv_ptr hue]; rfl
            · cases hrest
          · cases hrest
end
end Go.Vs
