/- Every instruction does what is told. -/
import Derived.Test.YtfinnljkcgglfaaDoorZv1
import Derived.Lib.UnsafeStr
import Derived.Lib.Builder
import Derived.Laws.Externs
import Derived.Orders
set_option linter.unusedSimpArgs false
set_option linter.unusedVariables false
namespace Go.Vs
open Go.RowKit

section
variable {w0 w : World} {E : Env} {h : Hp} {x : X}

theorem run_len {P : Program} {t ty : TypeId} {q : Q} {v r : V} {u : Value} (hq : q = .str ∨ q = .slc ∨ q = .map) (hu : ckQ P t q = true) (H : SR w0 E h w) (hv : VR E v u) (hr : lenV h q v = some r) : ∃ n, (Builtin.len_ #[t] ty #[u]).run P w = .ok n w ∧ VR E r n := by
  obtain ⟨td, hu, hqd⟩ := ckQ_spec hu
  have hshape : (q = .str → td = .string) ∧ (q = .slc → ∃ e, td = .slice e) ∧ (q = .map → ∃ k e, td = .map k e) := by
    refine ⟨fun h => ?_, fun h => ?_, fun h => ?_⟩ <;> subst h <;> cases td <;> simp [qOf] at hqd <;> simp
  unfold lenV at hr
  split at hr
  · split at hr
    · rename_i hq1
      cases hr; cases hv
      have := hshape.1 hq1
      subst this
      exact ⟨_, by simp [Builtin.len_, run_underlying hu, goInt]; rfl, .int _ _⟩
    · cases hr
  · split at hr
    · rename_i hq1
      cases hr; cases hv
      obtain ⟨e, rfl⟩ := hshape.2.1 hq1
      exact ⟨_, by simp [Builtin.len_, run_underlying hu, goInt], .int _ _⟩
    · cases hr
  · split at hr
    · rename_i hq1
      cases hr; cases hv
      obtain ⟨e, rfl⟩ := hshape.2.1 hq1
      exact ⟨_, by simp [Builtin.len_, run_underlying hu, goInt], .int _ _⟩
    · cases hr
  · split at hr
    · rename_i hq1
      cases hr; cases hv
      obtain ⟨e, rfl⟩ := hshape.2.1 hq1
      exact ⟨_, by simp [Builtin.len_, run_underlying hu, goInt], .int _ _⟩
    · cases hr
  · split at hr
    · rename_i hq1
      cases hr; cases hv
      obtain ⟨k, e, rfl⟩ := hshape.2.2 hq1
      exact ⟨_, by simp [Builtin.len_, run_underlying hu, goInt], .int _ _⟩
    · cases hr
  · split at hr
    · rename_i b hq1
      obtain ⟨k, e, rfl⟩ := hshape.2.2 hq1
      split at hr
      · rename_i es hg
        cases hr
        obtain ⟨l, hml, hb⟩ := H.blk b _ (hget_spec hg)
        obtain ⟨hB, h0, hown, ms, clock, hheap, hbirth, hpair⟩ := hb
        have hsz := hbirth.1
        cases hv with
        | map _ r0 hn hh =>
          have hr0 := hh l hml
          subst hr0
          have hget : (getObj l.b).run P w = .ok (.map ms clock) w := by simp [getObj, Sem.run, hheap]
          exact ⟨_, by simp [Builtin.len_, run_underlying hu, hget, goInt, hsz], .int _ _⟩
      · cases hr
    · cases hr
  · cases hr

theorem max_run {P : Program} {ts : Array TypeId} {t : TypeId} {k k' : IntKind} {a b : Int} : (Builtin.max_ ts t #[.int k a, .int k' b]).run P w = .ok (.int k (if b > a then b else a)) w := run_max_int2 w ts t k k' a b
theorem min_run {P : Program} {ts : Array TypeId} {t : TypeId} {k k' : IntKind} {a b : Int} : (Builtin.min_ ts t #[.int k a, .int k' b]).run P w = .ok (.int k (if b < a then b else a)) w := run_min_int2 w ts t k k' a b

theorem callFunc_run {P : Program} {f : FuncId} {args : Array Value} (hc : callable P f = true) : (callFunc f args).run P w = .ok (.enter f args) w := by
  unfold callable at hc
  cases hf : P.funcs[f]? with
  | none => rw [hf] at hc; cases hc
  | some fn =>
    rw [hf] at hc
    simp only [Option.any_some, Bool.and_eq_true, bne_iff_ne, ne_eq] at hc
    have hb : ¬ fn.body = none := by cases hbb : fn.body <;> simp_all
    simp [callFunc, hf, hc.2, hb]

theorem VRs.append {xs ys : List V} {us vs : Array Value} (h1 : VRs E xs us) (h2 : VRs E ys vs) : VRs E (xs ++ ys) (us ++ vs) := by
  refine ⟨by simp [h1.1, h2.1], fun j y v hy hv => ?_⟩
  rcases Nat.lt_or_ge j us.size with hj | hj
  · rw [Array.getElem?_append_left hj] at hv
    rw [List.getElem?_append_left (by rw [← h1.1]; exact hj)] at hy
    exact h1.2 j y v hy hv
  · rw [Array.getElem?_append_right hj] at hv
    rw [List.getElem?_append_right (by rw [← h1.1]; exact hj), ← h1.1] at hy
    exact h2.2 _ y v hy hv

theorem callV_spec {f : V} {fu : Value} {args : List V} {vs : Array Value} {g : FuncId} {l : List V} (hf : VR E f fu) (ha : VRs E args vs) (hc : callV f args = some (g, l)) :
    ∃ cap as, (Deferred.ofValue fu vs).run x.P w = .ok { target := .fn (.func g) cap, args := as } w ∧ VRs E l (as ++ cap) := by
  unfold callV at hc
  split at hc
  · rename_i f' first cap
    cases hc
    cases hf with
    | fn _ _ _ first' cap' h1 h2 h3 h4 =>
      refine ⟨cap', first' ++ vs, rfl, ?_⟩
      exact (VRs.append (VRs.append ⟨h1, h3⟩ ha) ⟨h2, h4⟩)
  · cases hc

theorem recv_val {P : Program} {t : TypeId} {u : Value} {nm : Option String} {td : TypeDesc} (hu : P.underlying t = some td) (hn : ∀ e, td ≠ .pointer e) : (receiverAt t (.val u) false nm).run P w = .ok u w := by
  unfold receiverAt
  simp only [Sem.run_bind, run_underlying hu, Result.andThen_ok]
  cases td <;> first
    | rfl
    | exact absurd rfl (hn _)

theorem recv_ptr {P : Program} {t : TypeId} {u : Value} {nm : Option String} {e : TypeId} (hu : P.underlying t = some (.pointer e)) : (receiverAt t (.val u) true nm).run P w = .ok u w := by
  unfold receiverAt
  simp only [Sem.run_bind, run_underlying hu, Result.andThen_ok]
  rfl

theorem isPtr_spec {P : Program} {t : TypeId} {b : Bool} (h : isPtr P t = some b) : ∃ td, P.underlying t = some td ∧ (b = true → ∃ e, td = .pointer e) ∧ (b = false → ∀ e, td ≠ .pointer e) := by
  unfold isPtr at h
  cases hu : P.underlying t with
  | none => rw [hu] at h; cases h
  | some td =>
    rw [hu] at h
    simp only [Option.map_some, Option.some.injEq] at h
    refine ⟨td, rfl, fun hb => ?_, fun hb e he => ?_⟩
    · subst hb
      cases td <;> simp at h
      exact ⟨_, rfl⟩
    · subst he; simp at h; rw [hb] at h; cases h

theorem method_run {P : Program} {t : TypeId} {m : String} {f : FuncId} {p : Option Nat} (hc : ckM P t m f p = true) (n : Nat) {v : V} {u : Value} (hv : VR E v u) {r : V} (hr : (p = none ∧ r = v) ∨ ∃ off cs, p = some off ∧ v = .agg cs ∧ cs[off]? = some r) :
    ∃ ru, (method (n + 1) t u m).run P w = .ok (f, ru) w ∧ VR E r ru := by
  unfold ckM at hc
  cases hi : P.info? t with
  | none => rw [hi] at hc; cases hc
  | some i =>
    rw [hi] at hc
    simp only at hc
    cases hrow : i.methods.find? (·.name == m) with
    | none => rw [hrow] at hc; cases hc
    | some row =>
      rw [hrow] at hc
      rcases hr with ⟨rfl, rfl⟩ | ⟨off, cs, rfl, rfl, hr⟩
      · simp only [Bool.and_eq_true] at hc
        obtain ⟨hpath, hfn⟩ := hc
        have hp : row.path.toList = [] := by simpa using hpath
        cases hg : row.func with
        | none => rw [hg] at hfn; cases hfn
        | some gb =>
          obtain ⟨g, b⟩ := gb
          rw [hg] at hfn
          simp only [Bool.and_eq_true, beq_iff_eq] at hfn
          obtain ⟨rfl, hptr⟩ := hfn
          obtain ⟨td, hu, h1, h2⟩ := isPtr_spec hptr
          refine ⟨u, ?_, hv⟩
          simp only [method, typeInfo, Sem.run_bind, run_program, Result.andThen_ok, hi, Sem.run_pure, hrow, hp, follow, hg]
          cases b with
          | true =>
            obtain ⟨e, rfl⟩ := h1 rfl
            rw [recv_ptr hu]; rfl
          | false => rw [recv_val hu (h2 rfl)]; rfl
      · simp only at hc
        have hp2 : ∃ s, row.path.toList = [s] := by
          split at hc
          · rename_i s g b hp hg; exact ⟨s, hp⟩
          · cases hc
        obtain ⟨s, hpath⟩ := hp2
        rw [hpath] at hc
        cases hg : row.func with
        | none => rw [hg] at hc; cases hc
        | some gb =>
          obtain ⟨g, b⟩ := gb
          rw [hg] at hc
          simp only [Bool.and_eq_true, beq_iff_eq, Bool.not_eq_true'] at hc
          obtain ⟨⟨⟨rfl, rfl⟩, hd⟩, hrest⟩ := hc
          split at hrest
          · rename_i fs hu
            split at hrest
            · rename_i fd hfd
              simp only [Bool.and_eq_true, beq_iff_eq] at hrest
              obtain ⟨⟨hoff, hag⟩, hptr⟩ := hrest
              obtain ⟨td, hue, h1, _⟩ := isPtr_spec hptr
              obtain ⟨e, rfl⟩ := h1 rfl
              have hvals := hv.agg_vals
              cases hv with
              | agg _ us hl hh h1' =>
                have hlt : off < us.size := by rw [hl]; exact (List.getElem?_eq_some_iff.1 hr).1
                refine ⟨us[off], ?_, hh off r _ hr (by simp [hlt])⟩
                have hpart : (part fd.type us fd.offset).run P w = .ok us[off] w := by
                  simp [part, run_isAgg hag, hoff, hlt]
                simp only [method, typeInfo, Sem.run_bind, run_program, Result.andThen_ok, hi, Sem.run_pure, hrow, hpath, follow, run_underlying hu, hfd, hd, Bool.false_eq_true, if_false, hpart, hg]
                rw [recv_ptr hue]; rfl
            · cases hrest
          · cases hrest

theorem nilAhead_run {x : X} (hx : XOk x) {m : String} {t : TypeId} {v : V} {r : List V} (hm : methNil x m (.ifc t v :: r) = true) (n : Nat) {u : Value} (hv : VR E v u) : (nilAhead (n + 1) t u m).run x.P w = .ok (some false) w := by
  unfold methNil at hm
  simp only at hm
  cases hM : x.M t m with
  | none => rw [hM] at hm; cases hm
  | some fp =>
    obtain ⟨f, p⟩ := fp
    have hc := hx t m f p hM
    rw [hM] at hm
    unfold ckM at hc
    cases hi : x.P.info? t with
    | none => rw [hi] at hc; cases hc
    | some i =>
      rw [hi] at hc
      simp only at hc
      cases hrow : i.methods.find? (·.name == m) with
      | none => rw [hrow] at hc; cases hc
      | some row =>
        rw [hrow] at hc
        cases p with
        | none =>
          simp only [Bool.and_eq_true] at hc
          obtain ⟨hpath, hfn⟩ := hc
          have hp : row.path.toList = [] := by simpa using hpath
          cases hg : row.func with
          | none => rw [hg] at hfn; cases hfn
          | some gb =>
            obtain ⟨g, b⟩ := gb
            rw [hg] at hfn
            simp only [Bool.and_eq_true, beq_iff_eq] at hfn
            obtain ⟨rfl, hptr⟩ := hfn
            obtain ⟨td, hu, h1, h2⟩ := isPtr_spec hptr
            simp only [nilAhead, typeInfo, Sem.run_bind, run_program, Result.andThen_ok, hi, Sem.run_pure, hrow, hp, followBlind, hg]
            cases b with
            | true => rfl
            | false =>
              simp only [Sem.run_bind, run_underlying hu, Result.andThen_ok]
              have := h2 rfl
              cases td <;> first | rfl | exact absurd rfl (this _)
        | some off =>
          cases v <;> simp only [Bool.false_eq_true] at hm <;> try (cases hm; done)
          rename_i cs
          have hoffl : off < cs.length := by simpa using hm
          simp only at hc
          have hp2 : ∃ s, row.path.toList = [s] := by
            split at hc
            · rename_i s g b hp hg; exact ⟨s, hp⟩
            · cases hc
          obtain ⟨s, hpath⟩ := hp2
          rw [hpath] at hc
          cases hg : row.func with
          | none => rw [hg] at hc; cases hc
          | some gb =>
            obtain ⟨g, b⟩ := gb
            rw [hg] at hc
            simp only [Bool.and_eq_true, beq_iff_eq, Bool.not_eq_true'] at hc
            obtain ⟨⟨⟨rfl, rfl⟩, hd⟩, hrest⟩ := hc
            split at hrest
            · rename_i fs hu
              split at hrest
              · rename_i fd hfd
                simp only [Bool.and_eq_true, beq_iff_eq] at hrest
                obtain ⟨⟨hoff, hag⟩, hptr⟩ := hrest
                cases hv with
                | agg _ us hl hh h1' =>
                  have hlt : off < us.size := by rw [hl]; exact hoffl
                  have hpart : (part fd.type us fd.offset).run x.P w = .ok us[off] w := by
                    simp [part, run_isAgg hag, hoff, hlt]
                  simp only [nilAhead, typeInfo, Sem.run_bind, run_program, Result.andThen_ok, hi, Sem.run_pure, hrow, hpath, followBlind, run_underlying hu, hfd, hd, hpart, hg]
              · cases hrest
            · cases hrest
end
end Go.Vs
namespace Go.Vs
open Go.RowKit

section
variable {w0 w w' : World} {E : Env} {h : Hp} {x : X}

theorem cell_freeze (w : World) (a : Addr) (n : Nat) (b : Addr) : (w.freeze a n).cell? b = w.cell? b := by
  unfold World.freeze
  split
  · rfl
  · unfold World.cell?
    simp only [Array.getElem?_modify]
    by_cases hb : a.block = b.block
    · simp only [hb, if_true]
      cases w.heap[b.block]? with
      | none => rfl
      | some o => cases o <;> rfl
    · simp only [hb, if_false]

theorem shape_freeze (w : World) (a : Addr) (n : Nat) (b : Nat) : (w.freeze a n).shape? b = w.shape? b := by
  unfold World.freeze
  split
  · rfl
  · unfold World.shape?
    simp only [Array.getElem?_modify]
    by_cases hb : a.block = b
    · simp only [hb, if_true]
      cases w.heap[b]? with
      | none => rfl
      | some o => cases o <;> rfl
    · simp only [hb, if_false]

theorem heap_freeze (w : World) (a : Addr) (n c : Nat) (hc : c ≠ a.block) : (w.freeze a n).heap[c]? = w.heap[c]? := by
  unfold World.freeze
  split
  · rfl
  · simp only [Array.getElem?_modify]
    rw [if_neg (fun e => hc e.symm)]

theorem size_freeze (w : World) (a : Addr) (n : Nat) : (w.freeze a n).heap.size = w.heap.size := by
  unfold World.freeze
  split <;> simp

/-- A typed block of the call's own is frozen: nothing is told of it any more. -/
theorem SR.ice (H : SR w0 E h w) {β : Nat} {cs : List V} {T : TypeId} (hg : hget h β = some (.cells cs (some T))) {l : Loc} (hm : E.mu β = some l) (n : Nat) :
    SR w0 (E.kill β) (h.set β none) (w.freeze ⟨l.b, l.base, none⟩ n) := by
  obtain ⟨l2, hm2, hb⟩ := H.live hg
  rw [hm] at hm2; cases hm2
  obtain ⟨hT, hB, hlt, hown, hcs⟩ := hb
  obtain ⟨h0, m, hsh, hall⟩ := hT T rfl
  have hk := H.kill β
  have hbel : Below w0.heap.size w0 (w.freeze ⟨l.b, l.base, none⟩ n) := Lib.below_freeze hk.below hB n
  refine ⟨hk.len, hbel, fun b p v hf => by rw [cell_freeze]; exact hk.frz b p v hf, fun γ y hy => ?_, hk.non, hk.dis, hk.dfr, fun b p ho => ⟨by rw [size_freeze]; exact (hk.old b p ho).1, (hk.old b p ho).2⟩, fun b p ho => ⟨by rw [heap_freeze _ _ _ _ (fun e => (H.hid b p ho).2.2 β l hm e.symm)]; exact (H.hid b p ho).1, (hk.hid b p ho).2⟩⟩
  obtain ⟨l', hm', hb'⟩ := hk.blk γ y hy
  have hm2 : E.mu γ = some l' ∧ γ ≠ β := by
    simp only [Env.kill] at hm'
    split at hm'
    · cases hm'
    · rename_i hne; exact ⟨hm', hne⟩
  refine ⟨l', hm', ?_⟩
  by_cases hbb : l'.b = l.b
  · cases y with
    | cells cs' ty' =>
      obtain ⟨g0, g1, g2, g3, g4⟩ := hb'
      have hno : ∀ b o, ¬ l'.own b o := fun b o ho => by
        obtain ⟨e, h1, _⟩ := g3 b o ho
        subst e
        rw [hbb] at h1
        have hlto : o < m := by
          unfold World.cell? at h1
          unfold World.shape? at hsh
          split at hsh
          · rename_i c e' fr hcc
            cases hsh
            simp only [hcc] at h1
            rcases Nat.lt_or_ge o c.size with h' | h'
            · exact h'
            · rw [Array.getElem?_eq_none h'] at h1; cases h1
          · cases hsh
        have := hall o hlto
        rw [← hbb] at this
        exact hm2.2 (H.dis γ β l' l _ _ hm2.1 hm ho this)
      refine ⟨g0.mono fun s hs => by rw [shape_freeze]; exact hs, g1, by rw [size_freeze]; exact g2, fun b o ho => (hno b o ho).elim, fun j hj => ((hno _ _ (g4 j hj).1).elim)⟩
    | map es =>
      obtain ⟨g1, g0, g2, ms, clock, g3, g4⟩ := hb'
      unfold World.shape? at hsh
      rw [hbb] at g3
      rw [g3] at hsh
      cases hsh
  · exact hb'.mono (Le.refl _) (by rw [size_freeze]; exact Nat.le_refl _) (by rw [heap_freeze _ _ _ _ hbb])

theorem does_toU {s d t : TypeId} {j : TypeInfo} {a : V} {u : Value} (H : SR w0 E h w) (hs : x.P.underlying s = some (.pointer t)) (hd : x.P.underlying d = some .unsafePointer) (hj : x.P.info? t = some j) (hjs : j.size ≠ 0) (hv : VR E a u) {v : V}
    (hr : (a = .nptr ∧ v = .nptr) ∨ (∃ b o l, a = .ptr b o ∧ rd h (.ptr b o) 1 = some l ∧ v = .ptr b o)) :
    Does x w0 E w ((do pure (.value (← convert s d u)) : Sem Next).run x.P w) (some (.val v h)) := by
  rcases hr with ⟨rfl, rfl⟩ | ⟨b, o, l, rfl, hrd, rfl⟩
  · cases hv
    exact Does.same (u := .pointer none) H (by simp [convert, run_underlying hs, run_underlying hd, Conv.unsafePointer]) .nptr
  · obtain ⟨b', p, vs, rfl, hrow, hln⟩ := rd_row H hv hrd
    have hvl : 0 < vs.length := by rw [hrow.1, hln]; exact Nat.one_pos
    have hc := (hrow.2 0 _ (List.getElem?_eq_getElem hvl)).1
    have hsh : ∃ e cells, w.shape? b' = some (e, cells) ∧ p < cells := by
      unfold World.cell? at hc
      unfold World.shape?
      simp only [Nat.add_zero] at hc
      split at hc
      · rename_i c e fr hcc
        refine ⟨e, c.size, rfl, ?_⟩
        simp at hc
        rcases Nat.lt_or_ge p c.size with h' | h'
        · exact h'
        · rw [Array.getElem?_eq_none h'] at hc; cases hc
      · cases hc
    obtain ⟨e, cells, hsh, hlt⟩ := hsh
    refine Does.same (u := .pointer (some ⟨b', p, none⟩)) H ?_ hv
    simp only [Sem.run_bind, Lib.run_to_unsafe w ⟨b', p, none⟩ hs hd hj hjs hsh hlt, Result.andThen_ok]
    rfl

theorem liesAt_self {P : Program} {e : TypeId} (hc : P.cellsOf e ≠ 0) (count n : Nat) (hn : n ≤ count) : liesAt P P.depth e count 0 e n = true := by
  have hd : P.depth = (2 * (P.types.size + Made.depth) + 1) + 1 := rfl
  rw [hd]
  simp only [liesAt, Bool.or_eq_true]
  left
  rw [hd]
  simp [rowAt, hc, hn, sameLayout]

theorem typed_lt {cs : List V} {T : TypeId} {l : Loc} (hb : BR w0.heap.size E w l (.cells cs (some T))) : l.base = 0 ∧ ∃ m, w.shape? l.b = some (T, m) ∧ cs.length ≤ m := by
  obtain ⟨hT, hB, hlt, hown, hcs⟩ := hb
  obtain ⟨h0, m, hsh, _⟩ := hT T rfl
  refine ⟨h0, m, hsh, ?_⟩
  rcases Nat.lt_or_ge m cs.length with h' | h'
  · obtain ⟨_, v, hc, _⟩ := hcs m h'
    unfold World.cell? at hc
    unfold World.shape? at hsh
    split at hsh
    · rename_i c e' fr hcc
      cases hsh
      simp only [hcc, h0, Nat.zero_add] at hc
      simp at hc
    · cases hsh
  · exact h'

theorem does_frU {s d t : TypeId} {j : TypeInfo} {n : Nat} {a : V} {u : Value} (H : SR w0 E h w) (hs : x.P.underlying s = some .unsafePointer) (hd : x.P.underlying d = some (.pointer t)) (hj : x.P.info? t = some j) (hn : x.P.cellsOf t = n) (hn0 : n ≠ 0) (hv : VR E a u) {v : V}
    (hr : (a = .nptr ∧ v = .nptr) ∨ (∃ b cs, a = .ptr b 0 ∧ hget h b = some (.cells cs (some t)) ∧ n ≤ cs.length ∧ v = .ptr b 0)) :
    Does x w0 E w ((do pure (.value (← convert s d u)) : Sem Next).run x.P w) (some (.val v h)) := by
  rcases hr with ⟨rfl, rfl⟩ | ⟨b, cs, rfl, hg, hle, rfl⟩
  · cases hv
    exact Does.same (u := .pointer none) H (by simp [convert, run_underlying hs, run_underlying hd, Conv.unsafePointer]) .nptr
  · obtain ⟨l, hm, hb⟩ := H.live hg
    obtain ⟨h0, m, hsh, hlm⟩ := typed_lt hb
    have hv' := hv
    cases hv with
    | ptr _ _ ad hlt hh =>
      have had := hh l hm
      rw [h0] at had
      subst had
      refine Does.same (u := .pointer (some ⟨l.b, 0, none⟩)) H ?_ hv'
      have hl := liesAt_self (P := x.P) (e := t) (by rw [hn]; exact hn0) (m / x.P.cellsOf t) 1 (by rw [hn]; exact (Nat.le_div_iff_mul_le (by omega)).2 (by omega))
      simp only [Nat.add_zero, Sem.run_bind, Lib.run_from_unsafe w ⟨l.b, 0, none⟩ hs hd hj hsh hl, Result.andThen_ok]
      rfl

theorem does_pne {t e : TypeId} {p1 p2 : Operand} {b o : Nat} {ua ub : Value} (H : SR w0 E h w) (hu : x.P.underlying t = some (.pointer e)) (hi : (x.P.info? e).isSome = true) (ha : VR E (.ptr b o) ua) (hb : VR E (.ptr b o) ub) (hg : (hget h b).isSome = true) :
    Does x w0 E w ((do pure (.value (← (do eqGuard .neq t p1 p2 ua ub; binOp .neq t ua ub))) : Sem Next).run x.P w) (some (.val (.bool false) h)) := by
  obtain ⟨y, hy⟩ := Option.isSome_iff_exists.1 hg
  obtain ⟨l, hm, _⟩ := H.blk b y (hget_spec hy)
  obtain ⟨j, hj⟩ := Option.isSome_iff_exists.1 hi
  cases ha with
  | ptr _ _ a1 n1 h1 =>
    cases hb with
    | ptr _ _ a2 n2 h2 =>
      have e1 := h1 l hm
      have e2 := h2 l hm
      subst e1
      subst e2
      refine Does.same (u := .bool false) H ?_ (.bool _)
      have hge : (eqGuard .neq t p1 p2 (.pointer (some ⟨l.b, l.base + o, none⟩)) (.pointer (some ⟨l.b, l.base + o, none⟩))).run x.P w = .ok () w :=
        eqGuard_other (fun _ _ h => by cases h.1) (fun h => by cases h)
      simp only [Sem.run_bind, hge, Result.andThen_ok, Lib.run_neq_ptr_same w _ hu hj]
      rfl

theorem does_noEsc {fn : Func} {f : FuncId} {a : V} {u : Value} (H : SR w0 E h w) (hf : x.P.funcs[f]? = some fn) (hn : fn.name = "internal/abi.NoEscape") (ho : fn.origin = "") (hb : fn.body.isNone = true) (hv : VR E a u) :
    Does x w0 E w ((callFunc f #[u]).run x.P w) (some (.val a h)) := by
  have h1 : Extern.findNext fn = none := by
    unfold Extern.findNext
    rw [ho, hn]
    rfl
  have h2 : Extern.find fn = some Extern.AbiNoEscape.same := by
    unfold Extern.find
    rw [ho, hn]
    rfl
  rw [run_callFunc_extern hf (by rw [hn]; rfl) hb h1 h2]
  exact Does.same H rfl hv

theorem does_sld {ts : Array TypeId} {ty : TypeId} {a v : V} {u : Value} (H : SR w0 E h w) (hv : VR E a u) (hr : (a = .nsl ∧ v = .nptr) ∨ (∃ b off len cap ex es ag, a = .sl b off len cap ex es ag ∧ 0 < cap ∧ v = .ptr b off)) :
    Does x w0 E w ((do pure (.value (← Builtin.unsafeSliceData_ ts ty #[u])) : Sem Next).run x.P w) (some (.val v h)) := by
  rcases hr with ⟨rfl, rfl⟩ | ⟨b, off, len, cap, ex, es, ag, rfl, hc, rfl⟩
  · cases hv
    exact Does.same (u := .pointer none) H rfl .nptr
  · cases hv with
    | sl _ _ _ _ _ _ _ ad cap' hn hl hc' hex hh =>
      refine Does.same (u := .pointer (some ad)) H ?_ (.ptr _ _ _ hn fun l hl => ((hh l hl).1.resolve_left (by omega)))
      simp only [Sem.run_bind, Lib.run_unsafeSliceData_row w ts ty ad len cap' (by omega), Result.andThen_ok]
      rfl

theorem does_ustr_nil {pt it ty : TypeId} {a : V} {u : Value} (H : SR w0 E h w) (hv : VR E a u) (hp : a = .nptr ∨ ∃ b o, a = .ptr b o) :
    Does x w0 E w ((do pure (.value (← Builtin.unsafeString_ #[pt, it] ty #[u, .int .i64 0])) : Sem Next).run x.P w) (some (.val (.str []) h)) := by
  have : ∃ p, u = .pointer p := by
    rcases hp with rfl | ⟨b, o, rfl⟩ <;> cases hv
    · exact ⟨_, rfl⟩
    · exact ⟨_, rfl⟩
  obtain ⟨p, rfl⟩ := this
  refine Does.same (u := .string .empty) H ?_ (.str [])
  simp only [Sem.run_bind, Lib.run_unsafeString_none w pt it ty p, Result.andThen_ok]
  rfl

theorem run_loadBytes {P : Program} (w : World) : ∀ (l : List Int) (a : Addr) (acc : ByteArray), (∀ j q, l[j]? = some q → w.cell? (a.add j) = some (.int .u8 q)) →
    (loadBytes a acc l.length).run P w = .ok ⟨acc.data ++ (l.map fun q => UInt8.ofNat q.toNat).toArray⟩ w
  | [], a, acc, _ => by simp [loadBytes]
  | q :: l, a, acc, h => by
    have h0 : w.cell? a = some (.int .u8 q) := by
      have := h 0 q rfl
      simpa [Addr.add] using this
    have ih := run_loadBytes (P := P) w l (a.add 1) (acc.push (UInt8.ofNat q.toNat)) (fun j y hy => by
      have := h (j + 1) y (by simpa using hy)
      have e : (a.add 1).add j = a.add (j + 1) := by
        unfold Addr.add
        by_cases hj : j = 0
        · subst hj; simp
        · simp [hj]; omega
      rw [e]; exact this)
    have hx : q.toNat.toUInt8 = UInt8.ofNat q.toNat := rfl
    simp only [List.length_cons, loadBytes, Sem.run_bind, run_load, h0, Result.andThen, hx]
    rw [ih]
    congr 1
    apply ByteArray.ext
    simp [ByteArray.push]

theorem run_ustr {P : Program} (w : World) (pt it ty e : TypeId) (hp : P.underlying pt = some (.pointer e)) (hc : P.cellsOf e = 1) (g cells : Nat) (hsh : w.shape? g = some (e, cells)) (l : List Int) (h0 : l ≠ []) (hn : l.length ≤ cells) (h63 : l.length ≤ 9223372036854775807)
    (hcell : ∀ j q, l[j]? = some q → w.cell? ((⟨g, 0, none⟩ : Addr).add j) = some (.int .u8 q)) :
    (Builtin.unsafeString_ #[pt, it] ty #[.pointer (some ⟨g, 0, none⟩), .int .i64 l.length]).run P w = .ok (.string ⟨(l.map fun q => UInt8.ofNat q.toNat).toArray⟩) (w.freeze ⟨g, 0, none⟩ l.length) := by
  have hl : l.length ≠ 0 := by simpa using h0
  have hlb := run_loadBytes (P := P) w l ⟨g, 0, none⟩ .empty hcell
  have hlies := Lib.liesAt_bytes (P := P) hc (cells / P.cellsOf e) l.length (by rw [hc]; simpa using hn)
  have h63' : ¬ (9223372036854775807 : Int) < (l.length : Int) := by omega
  have hdef : Builtin.unsafeString_ #[pt, it] ty #[.pointer (some ⟨g, 0, none⟩), .int .i64 l.length] =
      (do
        let n ← asInt (.int .i64 l.length)
        if n < 0 then runtimePanic (.error "unsafe.String: len out of range")
        if n > IntKind.i64.max then unsupported (.unsafePointer "String: a length above the largest int")
        if n = 0 then pure (.string .empty)
        else if ← variablesAt ⟨g, 0, none⟩ (← elemOf pt) n.toNat then do
          let s ← loadBytes ⟨g, 0, none⟩ .empty n.toNat
          freeze ⟨g, 0, none⟩ n.toNat
          pure (.string s)
        else unsupported (.unsafePointer "String: not so many bytes at ptr")) := rfl
  rw [hdef]
  have hmax : IntKind.i64.max = 9223372036854775807 := rfl
  have hneg : ¬ (l.length : Int) < 0 := by omega
  simp [asInt, asIntOf, hmax, h63', hneg, hl, variablesAt, hsh, elemOf, run_underlying hp, hlies, hlb]

theorem does_ustr {pt it ty e : TypeId} {b : Nat} {n : Int} {cs l : List V} {u : Value} (H : SR w0 E h w) (hp : x.P.underlying pt = some (.pointer e)) (hc : x.P.cellsOf e = 1) (hv : VR E (.ptr b 0) u) (hg : hget h b = some (.cells cs (some e))) (h0 : 0 ≤ n) (hn0 : n ≠ 0) (hmax : n ≤ 9223372036854775807)
    (hs : sub cs 0 n.toNat = some l) (hb : ∀ c ∈ l, c.isByte = true) :
    Does x w0 E w ((do pure (.value (← Builtin.unsafeString_ #[pt, it] ty #[u, .int .i64 n])) : Sem Next).run x.P w) (some (.val (.str (l.map fun | .int _ n => UInt8.ofNat n.toNat | _ => 0)) (h.set b none))) := by
  obtain ⟨lc, hm, hbr⟩ := H.live hg
  obtain ⟨hz, m, hsh, hlm⟩ := typed_lt hbr
  obtain ⟨hle, hln, _⟩ := sub_spec hs
  obtain ⟨vs, hrow⟩ := BR.row hbr hs
  have hsr := H.ice hg hm n.toNat
  cases hv with
  | ptr _ _ ad hlt hh =>
    have had := hh lc hm
    rw [hz] at had hsr
    subst had
    have hqs : (l.map fun | .int _ n => UInt8.ofNat n.toNat | _ => 0) = (l.map fun | .int _ n => n | _ => 0).map fun q => UInt8.ofNat q.toNat := by
      rw [List.map_map]
      refine List.map_congr_left fun c hc => ?_
      have hby := hb c hc
      cases c <;> simp [V.isByte] at hby
      rfl
    rw [hqs]
    generalize hbs : (l.map fun | .int _ n => n | _ => (0 : Int)) = bs
    have hbl : bs.length = n.toNat := by rw [← hbs]; simp [hln]
    have hnn : n = (bs.length : Int) := by omega
    have hcell : ∀ j q, bs[j]? = some q → w.cell? ((⟨lc.b, 0, none⟩ : Addr).add j) = some (.int .u8 q) := fun j y hy => by
      rw [← hbs, List.getElem?_map] at hy
      cases hlj : l[j]? with
      | none => rw [hlj] at hy; cases hy
      | some c =>
        rw [hlj] at hy
        simp only [Option.map_some, Option.some.injEq] at hy
        have hj : j < l.length := (List.getElem?_eq_some_iff.1 hlj).1
        have hjv : j < vs.length := by rw [hrow.1]; exact hj
        obtain ⟨h1, _, h3⟩ := hrow.2 j _ (List.getElem?_eq_getElem hjv)
        have hcv := h3 c hlj
        have hby := hb c (List.mem_of_getElem? hlj)
        simp only [hz, Nat.zero_add] at h1
        rw [Addr.add_none, Nat.zero_add, h1]
        generalize vs[j] = v at hcv
        cases hcv <;> simp [V.isByte] at hby
        rename_i k q
        cases k <;> simp at hby
        simp only at hy
        rw [← hy]
    refine ⟨.string ⟨(bs.map fun q => UInt8.ofNat q.toNat).toArray⟩, E.kill b, w.freeze ⟨lc.b, 0, none⟩ bs.length, Le.kill E b, ?_, .str _, by rw [hbl]; exact hsr⟩
    rw [hnn]
    have := run_ustr (P := x.P) w pt it ty e hp hc lc.b m hsh bs (by intro e; rw [e] at hbl; simp at hbl; omega) (by rw [hbl]; omega) (by omega) hcell
    simp only [Nat.add_zero, Sem.run_bind, this, Result.andThen_ok]
    rfl


/-! ### what a slice has room for; a beginning of one; bytealg.MakeNoZero; math/bits.Add64 -/
theorem min3_run {P : Program} {ts : Array TypeId} {t : TypeId} {k k' k'' : IntKind} {x y z : Int} :
    (Builtin.min_ ts t #[.int k x, .int k' y, .int k'' z]).run P w = .ok (.int k (if z < (if y < x then y else x) then z else (if y < x then y else x))) w := by
  simp [Builtin.min_, Builtin.min2]

theorem does_cap {t e : TypeId} {ty : TypeId} {a : V} {u : Value} {n : Nat} (H : SR w0 E h w) (hu : x.P.underlying t = some (.slice e)) (hv : VR E a u)
    (hr : (a = .nsl ∧ n = 0) ∨ (∃ b off len es ag, a = .sl b off len n true es ag) ∨ (∃ xs, a = .lst true xs ∧ n = xs.length)) :
    Does x w0 E w ((do pure (.value (← Builtin.cap_ #[t] ty #[u])) : Sem Next).run x.P w) (some (.val (.int .i64 n) h)) := by
  have : ∃ b l, u = .slice b l n := by
    rcases hr with ⟨rfl, rfl⟩ | ⟨b, off, len, es, ag, rfl⟩ | ⟨xs, rfl, rfl⟩
    · cases hv; exact ⟨_, _, rfl⟩
    · cases hv with
      | sl _ _ _ _ _ _ _ ad cap' hn hl hc hex hh => rw [hex rfl]; exact ⟨_, _, rfl⟩
    · cases hv with
      | lst _ _ es ad b p cap vals hc hex hes hne g1 g2 g3 => rw [hex rfl]; exact ⟨_, _, rfl⟩
  obtain ⟨b, l, rfl⟩ := this
  refine Does.same (u := .int .i64 n) H ?_ (.int _ _)
  simp [Builtin.cap_, run_underlying hu, goInt]

theorem does_slw {t e : TypeId} {es b off len cap : Nat} {ex ag : Bool} {n : Nat} {u : Value} {hi : Value} (H : SR w0 E h w) (hu : x.P.underlying t = some (.slice e)) (hs : tSize x.P e = some es)
    (hv : VR E (.sl b off len cap ex es ag) u) (hn : n ≤ cap) (hh : ∀ d, Bd w x.P (some hi) d n) :
    Does x w0 E w ((do pure (.value (← Instr.sliceAt t u none (some hi) none)) : Sem Next).run x.P w) (some (.val (.sl b off n n false es ag) h)) := by
  have hv' : slcV es (.sl b off len cap ex es ag) 0 (some n) none = some (.sl b (off + 0 * es) (n - 0) (cap - 0) ex es ag) := by simp [slcV, hn]
  obtain ⟨u', E', w', hE, hr, hvr, hsr⟩ := slc_spec (x := x) (lo' := none) (hi' := some hi) (mx' := none) H hv hv' ⟨_, hu, .inr ⟨e, rfl, hs⟩⟩ (fun ⟨s, hs⟩ => by cases hs) (fun _ => ⟨e, hu⟩) (fun d => .inr ⟨rfl, rfl⟩) (fun d => hh d) (fun d => rfl) ⟨fun _ => rfl, fun _ => rfl⟩ ⟨fun h => (by cases h), fun h => (by cases h)⟩ (fun h => absurd rfl h)
  refine ⟨u', E', w', hE, hr, ?_, hsr⟩
  simp only [Nat.zero_mul, Nat.add_zero, Nat.sub_zero] at hvr
  cases hvr with
  | sl _ _ _ _ _ _ _ ad cap' hn' hl hc hex hh' => exact .sl _ _ _ _ _ _ _ _ _ hn' (Nat.le_refl _) (Nat.le_trans hn hc) (by simp) hh'

theorem size_digits : ∀ (n t : Nat) (acc : Array Value), (Extern.BytealgMakeNoZero.digits n t acc).size = acc.size + n
  | 0, _, _ => rfl
  | n + 1, t, acc => by
    rw [Extern.BytealgMakeNoZero.digits, size_digits n]
    simp
    omega

theorem run_mnz {P : Program} (w : World) (ps rs : Array TypeId) (t e : TypeId) (h0 : rs[0]? = some t) (ht : P.underlying t = some (.slice e)) (n : Nat) (hn : n ≤ room) :
    ∃ cs : Array Value, (Extern.BytealgMakeNoZero.makeNoZero ps rs #[.int .i64 n]).run P w = .ok (.slice (some ⟨w.heap.size, 0, none⟩) n cs.size) (w.drew.drew.alloc (.cells cs e)) ∧ n ≤ cs.size := by
  have hdef : Extern.BytealgMakeNoZero.makeNoZero ps rs #[.int .i64 n] =
      (do
        let some t := rs[0]? | stuck "bytealg.MakeNoZero: no result type"
        let .slice elem ← underlying t | stuck "bytealg.MakeNoZero: slice type expected"
        if (n : Int) < 0 || (n : Int) > 2 ^ 48 then runtimePanic (.error "makeslice: len out of range")
        let cap ← choose (.appendCap (n : Int).toNat 0 elem)
        askRoom cap
        let bytes ← choose (.extern "internal/bytealg.MakeNoZero.bytes" 0)
        let a ← newRow elem (Extern.BytealgMakeNoZero.digits cap bytes #[])
        pure (.slice (some a) (n : Int).toNat cap)) := rfl
  have h1 : ¬ (n : Int) < 0 := by omega
  have h2 : ¬ (281474976710656 < (n : Int)) := by unfold room at hn; omega
  refine ⟨Extern.BytealgMakeNoZero.digits (grownCap w n 0 e) ((Question.extern "internal/bytealg.MakeNoZero.bytes" 0).cut (w.tape (w.drawn + 1) (.extern "internal/bytealg.MakeNoZero.bytes" 0))) #[], ?_, ?_⟩
  · rw [hdef, h0]
    simp [run_underlying ht, h1, h2, Question.forced, newRow, size_digits, grownCap]
  · rw [size_digits]
    simpa using grownCap_ge w n 0 e

theorem does_mnz {fn : Func} {f : FuncId} {t e : TypeId} {n : Nat} {kt : TypeId} (H : SR w0 E h w) (hf : x.P.funcs[f]? = some fn) (hn : fn.name = "internal/bytealg.MakeNoZero") (ho : fn.origin = "") (hb : fn.body.isNone = true)
    (ht : fn.resultTypes[0]? = some t) (hu : x.P.underlying t = some (.slice e)) (hkt : kt = e) (hr : n ≤ room) :
    Does x w0 E w ((callFunc f #[.int .i64 n]).run x.P w) (some (.val (.sl h.length 0 n n false 1 false) (h ++ [some (.cells [] (some kt))]))) := by
  have h1 : Extern.findNext fn = none := by
    unfold Extern.findNext
    rw [ho, hn]
    rfl
  have h2 : Extern.find fn = some (Extern.BytealgMakeNoZero.makeNoZero fn.params fn.resultTypes) := by
    unfold Extern.find
    rw [ho, hn]
    rfl
  rw [run_callFunc_extern hf (by rw [hn]; rfl) hb h1 h2]
  obtain ⟨cs, hrun, hle⟩ := run_mnz (P := x.P) w fn.params fn.resultTypes t e ht hu n hr
  rw [hrun]
  refine ⟨_, E.add (newLoc w.drew.drew cs.size), w.drew.drew.alloc (.cells cs e), Le.add _ _, rfl, VR.newSl (w := w.drew.drew) H.drew.drew _ _ _ _ _ _ _ (Nat.le_refl _) hle (by simp) (by omega), ?_⟩
  exact H.drew.drew.newCellsT (l := []) (vs := []) (Made.alloc w.drew.drew cs e) (TyR.alloc _ _ _ fun T hT => by cases hT; exact hkt) ⟨rfl, fun j u hu => by simp at hu⟩ (fun j u hu => by simp at hu)

def add64E : Array Value → Sem Value := fun args => do
  let (x, y, c) ← Extern.MathBitsCarry.three "Add64" args
  pure (Extern.MathBitsCarry.pair ((x + y + c) % Extern.MathBitsCarry.m64) ((x + y + c) / Extern.MathBitsCarry.m64))

theorem does_adc {fn : Func} {f : FuncId} {a b c : Int} (H : SR w0 E h w) (hf : x.P.funcs[f]? = some fn) (hn : fn.name = "math/bits.Add64") (ho : fn.origin = "") (hb : fn.body.isNone = true) (hc : 0 ≤ c ∧ c ≤ 1) :
    Does x w0 E w ((callFunc f #[.int .u64 a, .int .u64 b, .int .u64 c]).run x.P w) (some (.val (.tup [.int .u64 ((a.toNat + b.toNat + c.toNat) % 2 ^ 64 : Nat), .int .u64 ((a.toNat + b.toNat + c.toNat) / 2 ^ 64 : Nat)]) h)) := by
  have h1 : Extern.findNext fn = none := by
    unfold Extern.findNext
    rw [ho, hn]
    rfl
  have h2 : Extern.find fn = some add64E := by
    unfold Extern.find
    rw [ho, hn]
    rfl
  rw [run_callFunc_extern hf (by rw [hn]; rfl) hb h1 h2]
  have hc' : ¬ c.toNat > 1 := by omega
  refine Does.same (u := Extern.MathBitsCarry.pair ((a.toNat + b.toNat + c.toNat) % Extern.MathBitsCarry.m64) ((a.toNat + b.toNat + c.toNat) / Extern.MathBitsCarry.m64)) H ?_ ?_
  · have e : (add64E #[.int .u64 a, .int .u64 b, .int .u64 c]).run x.P w = .ok (Extern.MathBitsCarry.pair ((a.toNat + b.toNat + c.toNat) % Extern.MathBitsCarry.m64) ((a.toNat + b.toNat + c.toNat) / Extern.MathBitsCarry.m64)) w := by
      have : c = 0 ∨ c = 1 := by omega
      rcases this with rfl | rfl <;> rfl
    rw [e]
    rfl
  · refine .tup _ _ rfl fun j y v hy hv => ?_
    match j with
    | 0 => simp at hy hv; subst hy; subst hv; exact .int _ _
    | 1 => simp at hy hv; subst hy; subst hv; exact .int _ _
    | j + 2 => simp at hy

/-- A mark on a block all of which is frozen. -/
theorem SR.mark (H : SR w0 E h w) {b0 k n m : Nat} {T : TypeId} (hB : w0.heap.size ≤ b0) (hsh : w.shape? b0 = some (T, m)) (hm : 0 < m) (hfr : ∀ o, o < m → ∃ v, E.frz b0 o = some v) : SR w0 E h (w.freeze ⟨b0, k, none⟩ n) := by
  have hbel : Below w0.heap.size w0 (w.freeze ⟨b0, k, none⟩ n) := Lib.below_freeze H.below hB n
  have hhid : ∀ o, E.hid b0 ≠ some o := fun o ho => by
    obtain ⟨v, hv⟩ := hfr 0 hm
    have := (H.hid b0 o ho).2.1 0
    rw [hv] at this; cases this
  refine ⟨H.len, hbel, fun b p v hf => by rw [cell_freeze]; exact H.frz b p v hf, fun γ y hy => ?_, H.non, H.dis, H.dfr, fun b p ho => ⟨by rw [size_freeze]; exact (H.old b p ho).1, (H.old b p ho).2⟩, fun b p ho => ⟨by rw [heap_freeze _ _ _ _ (fun e => hhid p (by have e' : b = b0 := e; rw [← e']; exact ho))]; exact (H.hid b p ho).1, (H.hid b p ho).2⟩⟩
  obtain ⟨l', hm', hb'⟩ := H.blk γ y hy
  refine ⟨l', hm', ?_⟩
  by_cases hbb : l'.b = b0
  · cases y with
    | cells cs' ty' =>
      obtain ⟨g0, g1, g2, g3, g4⟩ := hb'
      have hno : ∀ b o, ¬ l'.own b o := fun b o ho => by
        obtain ⟨e, h1, _⟩ := g3 b o ho
        subst e
        rw [hbb] at h1
        have hlto : o < m := by
          unfold World.cell? at h1
          unfold World.shape? at hsh
          split at hsh
          · rename_i c e' fr hcc
            cases hsh
            simp only [hcc] at h1
            rcases Nat.lt_or_ge o c.size with h' | h'
            · exact h'
            · rw [Array.getElem?_eq_none h'] at h1; cases h1
          · cases hsh
        obtain ⟨v, hv⟩ := hfr o hlto
        have := H.dfr γ l' _ _ hm' ho
        rw [hbb, hv] at this; cases this
      refine ⟨g0.mono fun s hs => by rw [shape_freeze]; exact hs, g1, by rw [size_freeze]; exact g2, fun b o ho => (hno b o ho).elim, fun j hj => ((hno _ _ (g4 j hj).1).elim)⟩
    | map es =>
      obtain ⟨g1, g0, g2, ms, clock, g3, g4⟩ := hb'
      unfold World.shape? at hsh
      rw [hbb] at g3
      rw [g3] at hsh
      cases hsh
  · exact hb'.mono (Le.refl _) (by rw [size_freeze]; exact Nat.le_refl _) (by rw [heap_freeze _ _ _ _ hbb])

theorem does_cvb {t e : TypeId} {b n : Nat} {cs : List V} {u : Value} (H : SR w0 E h w) (ht : x.P.underlying t = some (.slice e)) (he : x.P.underlying e = some (.int .u8)) (hv : VR E (.sl b 0 n n true 1 false) u) (hg : hget h b = some (.cells cs (some e))) (hn : cs.length = n) (h0 : 0 < n) :
    Does x w0 E w ((do pure (.value (← convert t t u)) : Sem Next).run x.P w) (some (.val (.lst true (chunk 1 false n cs)) (h.set b none))) := by
  obtain ⟨lc, hm, hbr⟩ := H.live hg
  obtain ⟨hz, m, hsh, hlm⟩ := typed_lt hbr
  have hs : sub cs 0 cs.length = some cs := by simp [sub]
  obtain ⟨vs, hrow⟩ := BR.row hbr hs
  obtain ⟨hT, hB, hlt, hown, hcs⟩ := hbr
  obtain ⟨_, m', hsh', hall⟩ := hT e rfl
  rw [hsh] at hsh'; cases hsh'
  have hfz := H.freeze hm
  have hcell : ∀ o, o < m → ∃ v, w.cell? ⟨lc.b, o, none⟩ = some v := fun o ho => Option.isSome_iff_exists.1 (hown _ _ (hall o ho)).2.1
  have hmk := hfz.mark (b0 := lc.b) (k := m) (n := 1) hB hsh (by omega) (fun o ho => by
    obtain ⟨v, hv⟩ := hcell o ho
    exact ⟨v, by simp only [Env.freeze]; rw [if_pos (hall o ho)]; exact hv⟩)
  cases hv with
  | sl _ _ _ _ _ _ _ ad cap' hnn hl hc hex hh =>
    obtain ⟨hadd, hh2⟩ := hh lc hm
    have had := hadd.resolve_left (by omega)
    rw [hz] at had
    simp only [Nat.add_zero, Nat.zero_add] at had
    subst had
    have hcap := hex rfl
    subst hcap
    have hrun : (convert t t (.slice (some ⟨lc.b, 0, none⟩) cap' cap')).run x.P w = .ok (.slice (some ⟨lc.b, 0, none⟩) cap' cap') (w.freeze ⟨lc.b, m, none⟩ 1) := by
      simp [convert, run_underlying ht, run_underlying he, markStringish, hsh]
    refine ⟨.slice (some ⟨lc.b, 0, none⟩) cap' cap', E.freeze w b lc, w.freeze ⟨lc.b, m, none⟩ 1, Le.freeze H b lc, ?_, ?_, hmk⟩
    · rw [← hn] at hrun ⊢
      simp only [Sem.run_bind, hrun, Result.andThen_ok]
      rfl
    · refine VR.lst_of (b := lc.b) (p := 0) (vs := vs) (by rw [hn]; omega) (fun _ => rfl) ⟨hrow.1, fun j u hu => ⟨(hrow.2 j u hu).2.1, fun x hx => ((hrow.2 j u hu).2.2 x hx).mono (Le.freeze H b lc)⟩⟩ (fun j u hu => ?_) (Nat.le_refl _) (fun _ => rfl) _ (fun _ => rfl)
      have hj : j < cs.length := by rw [← hrow.1]; exact (List.getElem?_eq_some_iff.1 hu).1
      have h1 := (hrow.2 j u hu).1
      have h2 := (hcs j hj).1
      rw [hz] at h1 h2
      simp only [Nat.zero_add] at h1 h2 ⊢
      simp only [Env.freeze]
      rw [if_pos h2]
      exact h1
end
end Go.Vs
namespace Go.Vs
open Go.RowKit

section
variable {w0 w : World} {E : Env} {h : Hp} {x : X}

theorem Does.map {r : Result Next} {o : Option V} (H : SR w0 E h w) (hr : ∀ v, o = some v → ∃ u, r = .ok (.value u) w ∧ VR E v u) : Does x w0 E w r (o.map fun v => .val v h) := by
  cases o with
  | none => trivial
  | some v => obtain ⟨u, h1, h2⟩ := hr v rfl; exact Does.same H h1 h2

set_option linter.unusedSimpArgs false in
theorem j_sound {op : Op} {i : J} (hck : ckJ x.P op i = true) (dst : Option Tmp) (ty : TypeId) (pos : String) (after : Array Edge) (gd : Option (Nat × Bool)) {t : Nat → V} {a : Act} (H : SR w0 E h w) (hg : GR x E) (ht : ∀ n, VR E (t n) (a.tmps.getD n undef)) :
    Does x w0 E w ((execOp a.eval { dst, op, type := ty, pos, after, guard := gd }).run x.P w) (aopJ x t h i) := by
  have hO : ∀ {p : Operand} {o : O}, ckO p o = true → VR E (o.ev x t) (a.eval p) := fun hc => ckO_spec hg ht hc
  unfold ckJ at hck
  split at hck
  · -- a beginning of a slice
    rename_i tt p hi es b1 b2
    simp only [Bool.and_eq_true] at hck
    obtain ⟨⟨h1, h2⟩, h3⟩ := hck
    split at h1
    · rename_i e hu
      simp only [beq_iff_eq] at h1
      have v1 := hO h2
      have v2 := hO h3
      simp only [aopJ]
      split
      · rename_i b off len cap ex es' ag k n q1 q2
        split
        · rename_i hc
          obtain ⟨rfl, h0, hle⟩ := hc
          rw [q1] at v1
          rw [q2] at v2
          have hq : a.eval hi = .int k n := by
            generalize a.eval hi = u2 at v2
            cases v2
            rfl
          simp only [execOp]
          refine does_slw H hu h1 v1 hle fun d => ⟨k, ?_⟩
          rw [Int.toNat_of_nonneg h0]
          exact hq
        · trivial
      · trivial
    · cases h1
  · -- make, frozen
    rename_i tt p q es bt ag z b1 b2
    simp only [Bool.and_eq_true] at hck
    obtain ⟨⟨⟨h1, h4⟩, h2⟩, h3⟩ := hck
    have v1 := hO h2
    have v2 := hO h3
    split at h1
    · rename_i e hu
      split at h1
      · rename_i i hi
        simp only [Bool.and_eq_true, beq_iff_eq] at h1
        obtain ⟨⟨⟨hs, hb⟩, hag⟩, hz⟩ := h1
        split at hz
        · rename_i zv hzv
          simp only [Bool.and_eq_true, beq_iff_eq] at hz
          simp only [aopJ, execOp]
          split
          · rename_i l c hl hc
            rw [hl] at v1; rw [hc] at v2
            split
            · rename_i hcond
              generalize a.eval _ = u1 at v1 ⊢
              generalize a.eval _ = u2 at v2 ⊢
              cases v1; cases v2
              exact does_mkz H hu hi hzv hs hb hz.1 (fun e => by rw [e] at h4; simpa using h4) hz.2 hcond.1 ⟨Int.le_of_eq hcond.2.1.symm, Int.le_of_eq hcond.2.1⟩ hcond.2.2.1 hcond.2.2.2
            · trivial
          · trivial
        · cases hz
      · cases h1
    · cases h1
  · -- bytes, marked
    rename_i s d p ty o1
    simp only [Bool.and_eq_true, beq_iff_eq] at hck
    obtain ⟨⟨hsd, h1⟩, h2⟩ := hck
    subst hsd
    have v1 := hO h2
    split at h1
    · rename_i e hu
      simp only [Bool.and_eq_true, beq_iff_eq] at h1
      obtain ⟨het, h3⟩ := h1
      subst het
      split at h3
      · rename_i hue
        simp only [aopJ, execOp]
        split
        · rename_i b off n c ex es ag hb
          split
          · rename_i cs ty' hg
            split
            · rename_i hc
              obtain ⟨rfl, hc1, rfl, hc2, rfl, rfl, rfl, rfl⟩ := hc
              rw [hb] at v1
              exact does_cvb H hu hue v1 hg hc1 hc2
            · trivial
          · trivial
        · trivial
      · cases h3
    · cases h1
  · -- a literal, typed
    rename_i tt n ps bt z len qs ty
    have hpe : (ps.map fun (i, x) => (i, a.eval x)) = ((ps.toList.map fun (i, x) => (i, a.eval x))).toArray := by cases ps; simp
    split at hck
    · rename_i e hu
      simp only [Bool.and_eq_true, beq_iff_eq, decide_eq_true_eq] at hck
      obtain ⟨⟨⟨⟨⟨⟨hty, hs⟩, hn⟩, hlim⟩, hzz⟩, hp⟩, hzl⟩ := hck
      subst hn
      split at hzz
      · rename_i zv hz
        obtain ⟨hlen, hall⟩ := ckPartsI_spec (es := 1) hg ht hp
        simp only [aopJ, execOp]
        split
        · rename_i cs hf
          have hcl : cs.length = n * 1 := by
            have key : ∀ (qs : List (Nat × Nat × V)) (zs cs : List V), fillV zs qs = some cs → cs.length = zs.length := by
              intro qs
              induction qs with
              | nil => intro zs cs h; simp [fillV] at h; rw [h]
              | cons q r ih =>
                intro zs cs h
                obtain ⟨o, n, v⟩ := q
                simp only [fillV] at h
                split at h
                · rw [ih _ _ h, setAll_length]
                · cases h
            rw [key _ _ _ hf, hzl]
          rw [hpe]
          exact does_mkt H (.inr hz) hu hs hty.symm hlim (by have := ckVs_spec (E := E) hzz; simpa [zeroPat] using this) hlen hall hf hcl
        · trivial
      · cases hzz
    · cases hck
  · rename_i c
    split at hck
    · -- the least of three
      rename_i b1 b2 b3 hcal
      split at hck
      · rename_i p q r hargs
        simp only [Bool.and_eq_true] at hck
        have v1 := hO hck.1.1
        have v2 := hO hck.1.2
        have v3 := hO hck.2
        have e1 : c.args = #[p, q, r] := by rw [← Array.toArray_toList (xs := c.args), hargs]
        simp only [aopJ]
        split
        · rename_i k n1 k' n2 k'' n3 q1 q2 q3
          rw [q1] at v1
          rw [q2] at v2
          rw [q3] at v3
          split
          · rename_i hk
            obtain ⟨rfl, rfl⟩ := hk
            have u1 : a.eval p = .int k n1 := by generalize a.eval p = u at v1; cases v1; rfl
            have u2 : a.eval q = .int k n2 := by generalize a.eval q = u at v2; cases v2; rfl
            have u3 : a.eval r = .int k n3 := by generalize a.eval r = u at v3; cases v3; rfl
            refine Does.same H ?_ (.int _ _)
            simp only [execOp, resolve, hcal, Sem.run_bind, Sem.run_pure, Result.andThen_ok, invoke, builtin, e1, List.map_toArray, List.map_cons, List.map_nil, u1, u2, u3, min3_run]
          · trivial
        · trivial
      · cases hck
    · -- an append of zeros
      rename_i es bt ag z b d hcal
      split at hck
      · rename_i p q t1 t2 hargs htys
        simp only [Bool.and_eq_true] at hck
        obtain ⟨⟨⟨h1, h2⟩, hk⟩, h3⟩ := hck
        have v1 := hO h1
        have v2 := hO h2
        split at hk
        · rename_i k hu2
          split at h3
          · rename_i e hu1
            split at h3
            · rename_i i hi
              simp only [Bool.and_eq_true, beq_iff_eq, decide_eq_true_eq] at h3
              obtain ⟨⟨⟨⟨⟨hs, hb⟩, hlo⟩, hhi⟩, hes⟩, hz⟩ := h3
              split at hz
              · rename_i zv hzv
                simp only [Bool.and_eq_true, beq_iff_eq] at hz
                have e1 : c.args = #[p, q] := by rw [← Array.toArray_toList (xs := c.args), hargs]
                have e2 : c.argTypes = #[t1, t2] := by rw [← Array.toArray_toList (xs := c.argTypes), htys]
                have he : (execOp a.eval { dst, op := .call c, type := ty, pos, after, guard := gd }) = (do pure (.value (← Builtin.append_ #[t1, t2] ty #[a.eval p, a.eval q])) : Sem Next) := by
                  simp only [execOp, resolve, hcal, e1, e2, List.map_toArray, List.map_cons, List.map_nil]
                  rfl
                rw [he]
                simp only [aopJ]
                split
                · rename_i n q1 q2
                  rw [q1] at v1
                  rw [q2] at v2
                  split
                  · rename_i hc
                    obtain ⟨m, rfl⟩ : ∃ m : Nat, n = m := ⟨n.toNat, by omega⟩
                    have hm : m * bt ≤ room := by
                      have := hc.2
                      rw [← Int.natCast_mul] at this
                      omega
                    generalize a.eval p = w1 at v1 ⊢
                    generalize a.eval q = w2 at v2 ⊢
                    cases v1; cases v2
                    have := does_apm (ty := ty) (ag := ag) H hu1 hu2 hi hs hb hzv hz.1 hz.2 hlo hhi hes (by omega : 0 < m) hm
                    simpa [newSl] using this
                  · trivial
                · trivial
              · cases hz
            · cases h3
          · cases h3
        · cases hk
      · cases hck
    · -- cap
      rename_i b hcal
      split at hck
      · rename_i p t1 hargs htys
        simp only [Bool.and_eq_true] at hck
        obtain ⟨h1, h3⟩ := hck
        have v1 := hO h1
        split at h3
        · rename_i e hu
          have e1 : c.args = #[p] := by rw [← Array.toArray_toList (xs := c.args), hargs]
          have e2 : c.argTypes = #[t1] := by rw [← Array.toArray_toList (xs := c.argTypes), htys]
          have he : (execOp a.eval { dst, op := .call c, type := ty, pos, after, guard := gd }) = (do pure (.value (← Builtin.cap_ #[t1] ty #[a.eval p])) : Sem Next) := by
            simp only [execOp, resolve, hcal, e1, e2, List.map_toArray, List.map_cons, List.map_nil]
            rfl
          rw [he]
          simp only [aopJ]
          split
          · rename_i hb
            exact does_cap (n := 0) H hu v1 (.inl ⟨hb, rfl⟩)
          · rename_i b' off len cap ex es ag hb
            split
            · rename_i hex
              exact does_cap H hu v1 (.inr (.inl ⟨_, _, _, _, _, by rw [hb, hex]⟩))
            · trivial
          · rename_i ex xs hb
            split
            · rename_i hex
              exact does_cap H hu v1 (.inr (.inr ⟨xs, by rw [hb, hex], rfl⟩))
            · trivial
          · trivial
        · cases h3
      · cases hck
    · -- bytealg.MakeNoZero
      rename_i f kt b hcal
      simp only [Bool.and_eq_true] at hck
      obtain ⟨h1, h2⟩ := hck
      split at h1
      · rename_i fn hf
        simp only [Bool.and_eq_true, beq_iff_eq] at h1
        obtain ⟨⟨⟨hn, ho⟩, hbn⟩, hrt⟩ := h1
        split at hrt
        · rename_i t1 ht1
          split at hrt
          · rename_i e hu
            simp only [beq_iff_eq] at hrt
            split at h2
            · rename_i p hargs
              have v1 := hO h2
              have e1 : c.args = #[p] := by rw [← Array.toArray_toList (xs := c.args), hargs]
              have he : (execOp a.eval { dst, op := .call c, type := ty, pos, after, guard := gd }) = callFunc f #[a.eval p] := by
                simp only [execOp, resolve, hcal, e1, List.map_toArray, List.map_cons, List.map_nil]
                rfl
              rw [he]
              simp only [aopJ]
              split
              · rename_i n hb
                split
                · rename_i hc
                  rw [hb] at v1
                  generalize a.eval p = u1 at v1
                  cases v1
                  obtain ⟨m, rfl⟩ : ∃ m : Nat, n = m := ⟨n.toNat, by omega⟩
                  simp only [Int.toNat_natCast]
                  exact does_mnz H hf hn ho hbn ht1 hu hrt.symm (by omega)
                · trivial
              · trivial
            · cases h2
          · cases hrt
        · cases hrt
      · cases h1
    · -- math/bits.Add64
      rename_i f b1 b2 b3 hcal
      simp only [Bool.and_eq_true] at hck
      obtain ⟨h1, h2⟩ := hck
      split at h1
      · rename_i fn hf
        simp only [Bool.and_eq_true, beq_iff_eq] at h1
        obtain ⟨⟨hn, ho⟩, hbn⟩ := h1
        split at h2
        · rename_i p q r hargs
          simp only [Bool.and_eq_true] at h2
          have v1 := hO h2.1.1
          have v2 := hO h2.1.2
          have v3 := hO h2.2
          have e1 : c.args = #[p, q, r] := by rw [← Array.toArray_toList (xs := c.args), hargs]
          have he : (execOp a.eval { dst, op := .call c, type := ty, pos, after, guard := gd }) = callFunc f #[a.eval p, a.eval q, a.eval r] := by
            simp only [execOp, resolve, hcal, e1, List.map_toArray, List.map_cons, List.map_nil]
            rfl
          rw [he]
          simp only [aopJ]
          split
          · rename_i n1 n2 n3 q1 q2 q3
            rw [q1] at v1
            rw [q2] at v2
            rw [q3] at v3
            generalize a.eval p = u1 at v1
            generalize a.eval q = u2 at v2
            generalize a.eval r = u3 at v3
            cases v1; cases v2; cases v3
            split
            · rename_i hc
              exact does_adc H hf hn ho hbn hc
            · trivial
          · trivial
        · cases h2
      · cases h1
    · cases hck
  · cases hck

set_option linter.unusedSimpArgs false in
set_option maxHeartbeats 2000000 in
theorem op_sound (hx : XOk x) {op : Op} {i : I} (hck : ckI x.P op i = true) (dst : Option Tmp) (ty : TypeId) (pos : String) (after : Array Edge) (gd : Option (Nat × Bool)) {t : Nat → V} {a : Act} (H : SR w0 E h w) (hg : GR x E) (ht : ∀ n, VR E (t n) (a.tmps.getD n undef)) :
    Does x w0 E w ((execOp a.eval { dst, op, type := ty, pos, after, guard := gd }).run x.P w) (aop x t h i) := by
  have hO : ∀ {p : Operand} {o : O}, ckO p o = true → VR E (o.ev x t) (a.eval p) := fun hc => ckO_spec hg ht hc
  unfold ckI at hck
  split at hck
  · -- move
    exact Does.same H rfl (hO hck)
  · -- assign
    exact Does.same H rfl (hO hck)
  · -- pick
    simp only [Bool.and_eq_true] at hck
    obtain ⟨⟨h1, h2⟩, h3⟩ := hck
    have v1 := hO h1; have v2 := hO h2; have v3 := hO h3
    simp only [aop, execOp]
    split
    · rename_i c hc
      rw [hc] at v1
      generalize a.eval _ = u1 at v1 ⊢
      cases v1
      cases c with
      | true => exact Does.same H (by simp [asBool]) v2
      | false => exact Does.same H (by simp [asBool]) v3
    · trivial
  · -- alloc
    simp only [Bool.and_eq_true] at hck
    obtain ⟨hty, hck⟩ := hck
    split at hck
    · rename_i z hz
      exact does_new H hz hck (ckTy_spec hty)
    · cases hck
  · -- box
    simp only [Bool.and_eq_true] at hck
    simp only [aop, execOp]
    split
    · rename_i h1; exact does_box (ckTy_spec hck.1) H (hO hck.2) h1
    · trivial
  · -- build
    rename_i tt ps z qs
    have hpe : (ps.map fun (i, x) => (i, a.eval x)) = ((ps.toList.map fun (i, x) => (i, a.eval x))).toArray := by cases ps; simp
    split at hck
    · rename_i zv fs hz hu
      split at hck
      · rename_i l hl
        simp only [Bool.and_eq_true] at hck
        obtain ⟨hlen, hall⟩ := ckParts_spec hg ht hck.2
        simp only [aop, execOp]
        cases hf : fillV z (qs.map fun (o, n, a) => (o, n, a.ev x t)) with
        | none => trivial
        | some cs =>
          rw [hpe]
          exact does_build_struct H hz hu hl hck.1 hlen hall hf
      · cases hck
    · rename_i zv n e hz hu
      split at hck
      · rename_i es hs
        simp only [Bool.and_eq_true] at hck
        obtain ⟨hlen, hall⟩ := ckPartsA_spec hg ht hck.2
        simp only [aop, execOp]
        cases hf : fillV z (qs.map fun (o, n, a) => (o, n, a.ev x t)) with
        | none => trivial
        | some cs =>
          rw [hpe]
          exact does_build_array H hz hu hs hck.1 hlen hall hf
      · cases hck
    · cases hck
  · -- buildSlice
    rename_i tt n ps fz es bt ag z len qs
    have hpe : (ps.map fun (i, x) => (i, a.eval x)) = ((ps.toList.map fun (i, x) => (i, a.eval x))).toArray := by cases ps; simp
    split at hck
    · rename_i e hu
      simp only [Bool.and_eq_true, beq_iff_eq, Bool.or_eq_true, decide_eq_true_eq] at hck
      obtain ⟨⟨⟨⟨⟨⟨⟨hs, hag⟩, hag1⟩, hn⟩, hlim⟩, hzz⟩, hp⟩, hzl⟩ := hck
      subst hn
      split at hzz
      · rename_i zv hz
        obtain ⟨hlen, hall⟩ := ckPartsI_spec (es := es) hg ht hp
        simp only [aop, execOp]
        split
        · rename_i cs hf
          have hcl : cs.length = n * es := by
            have key : ∀ (qs : List (Nat × Nat × V)) (zs cs : List V), fillV zs qs = some cs → cs.length = zs.length := by
              intro qs
              induction qs with
              | nil => intro zs cs h; simp [fillV] at h; rw [h]
              | cons q r ih =>
                intro zs cs h
                obtain ⟨o, n, v⟩ := q
                simp only [fillV] at h
                split at h
                · rw [ih _ _ h, setAll_length]
                · cases h
            rw [key _ _ _ hf, hzl]
          rw [hpe]
          have := does_mks (fz := fz) (ag := ag) H (.inr hz) hu hs (fun h => by subst h; simpa using hag1) hlim (by have := ckVs_spec (E := E) hzz; simpa [zeroPat] using this) hlen hall hf hcl
          cases fz <;> exact this
        · trivial
      · cases hzz
    · cases hck
  · -- load
    simp only [Bool.and_eq_true, beq_iff_eq] at hck
    obtain ⟨⟨h1, h2⟩, h3⟩ := hck
    simp only [aop, execOp]
    cases hr : (rd h (_ : V) _).bind (asV _) with
    | none => trivial
    | some v =>
      simp only [Option.bind_eq_some_iff] at hr
      obtain ⟨l, hl, hv⟩ := hr
      exact does_load H h1 h2 (hO h3) hl hv
  · -- store
    simp only [Bool.and_eq_true, beq_iff_eq] at hck
    obtain ⟨⟨h1, h2⟩, h3⟩ := hck
    have v1 := hO h2
    simp only [aop, execOp]
    split
    · rename_i b o hb
      rw [hb] at v1
      split
      · rename_i hc
        cases hw : wr h b o _ with
        | none => trivial
        | some h' => exact does_store H h1 v1 (hO h3) hc.1 hc.2 hw
      · trivial
    · trivial
  · -- nilCheck
    have v1 := hO hck
    simp only [aop, execOp]
    generalize a.eval _ = u1 at v1 ⊢
    generalize O.ev x t _ = y at v1 ⊢
    cases v1 with
    | ptr b o ad h1 h2 => exact Does.same H rfl (.ptr b o ad h1 h2)
    | fp cs off b p vals h1 h2 h3 => exact Does.same H rfl (.fp cs off b p vals h1 h2 h3)
    | fn f first cap first' cap' h1 h2 h3 h4 =>
      cases f with
      | func f => exact Does.same H rfl (.fn _ _ _ first' cap' h1 h2 h3 h4)
      | method m =>
        by_cases hm : methNil x m first = true
        · simp only [hm, if_true]
          have hvr : VR E (.fn (.method m) first cap) (.func (.method m) first' cap') := .fn _ _ _ first' cap' h1 h2 h3 h4
          cases f1 : first with
          | nil => rw [f1] at hm; simp [methNil] at hm
          | cons y r =>
            rw [f1] at hm
            cases y with
            | ifc t v =>
              have hsz : 0 < first'.size := by rw [h1, f1]; simp
              have hv0 := h3 0 _ first'[0] (by rw [f1]; rfl) (by simp [hsz])
              have hget : (first'[0]? : Option Value) = some first'[0] := by simp [hsz]
              generalize first'[0] = u0 at hv0 hget
              cases hv0 with
              | ifc _ _ u hvu =>
                rw [f1] at hvr
                refine Does.same H ?_ hvr
                have hn := nilAhead_run (w := w) hx hm (x.P.types.size + 99) hvu
                simp only [hget, Sem.run_bind, run_program, Result.andThen_ok]
                rw [show x.P.types.size + Made.depth = x.P.types.size + 99 + 1 from rfl, hn]
                rfl
            | _ => simp [methNil] at hm
        · simp only [hm]; trivial
      | _ => trivial
    | ifc t v u hh => exact Does.same H rfl (.ifc t v u hh)
    | _ => trivial
  · -- binOp
    simp only [Bool.and_eq_true, beq_iff_eq] at hck
    obtain ⟨⟨⟨rfl, h1⟩, h2⟩, h3⟩ := hck
    simp only [aop, execOp]
    split
    · trivial
    · cases hv : binV _ _ (_ : V) _ with
      | none => trivial
      | some v => exact does_bin H h2 h3 h1 (hO h2) (hO h3) hv
  · -- two pointers
    simp only [Bool.and_eq_true, beq_iff_eq] at hck
    obtain ⟨⟨⟨rfl, h1⟩, h2⟩, h3⟩ := hck
    have v1 := hO h2
    have v2 := hO h3
    split at h1
    · rename_i e hu
      simp only [aop, execOp]
      split
      · rename_i b o b' o' hb hb'
        rw [hb] at v1; rw [hb'] at v2
        split
        · rename_i hc
          obtain ⟨rfl, rfl, hg⟩ := hc
          exact does_pne H hu h1 v1 v2 hg
        · trivial
      · trivial
    · cases h1
  · -- unOp
    simp only [Bool.and_eq_true, beq_iff_eq] at hck
    obtain ⟨rfl, h1⟩ := hck
    simp only [aop, execOp]
    refine Does.map H fun v hv => ?_
    obtain ⟨r, hr, hvr⟩ := run_uni (P := x.P) (w := w) (hO h1) hv
    exact ⟨r, by simp [hr], hvr⟩
  · -- convert to an int
    rename_i s1 d1 p1 k1 b1
    simp only [Bool.and_eq_true] at hck
    obtain ⟨⟨h1, h2⟩, h3⟩ := hck
    have v1 := hO h3
    obtain ⟨td, hs⟩ := Option.isSome_iff_exists.1 h1
    split at h2
    · rename_i k' hd
      have hk : k1 = k' := by simpa using h2
      subst hk
      simp only [aop, execOp]
      split
      · rename_i k2 n hn
        rw [hn] at v1
        generalize a.eval _ = u1 at v1 ⊢
        cases v1
        exact Does.same H (by simp only [convert, Sem.run_bind, run_underlying hs, run_underlying hd, Result.andThen_ok]; rfl) (.int _ _)
      · trivial
    · cases h2
  · -- convert a string to a string
    simp only [Bool.and_eq_true] at hck
    obtain ⟨⟨h1, h2⟩, h3⟩ := hck
    have v1 := hO h3
    obtain ⟨td, hs⟩ := Option.isSome_iff_exists.1 h1
    split at h2
    · rename_i hd
      simp only [aop, execOp]
      split
      · rename_i s hn
        rw [hn] at v1
        generalize a.eval _ = u1 at v1 ⊢
        cases v1
        refine Does.same (u := .string ⟨s.toArray⟩) H ?_ (.str _)
        simp only [convert, Sem.run_bind, run_underlying hs, run_underlying hd, Result.andThen_ok]
        rfl
      · trivial
    · cases h2
  · -- convert a string to bytes
    simp only [Bool.and_eq_true] at hck
    obtain ⟨⟨h1, h2⟩, h3⟩ := hck
    have v1 := hO h3
    obtain ⟨td, hs⟩ := Option.isSome_iff_exists.1 h1
    split at h2
    · rename_i e hd
      split at h2
      · rename_i he
        simp only [aop, execOp]
        split
        · rename_i s hn
          rw [hn] at v1
          have := does_s2b (fz := ‹Bool›) H hs hd he v1
          split
          · rename_i hf; rw [if_pos hf] at this; exact this
          · rename_i hf; rw [if_neg hf] at this; exact this
        · trivial
      · cases h2
    · cases h2
  · -- convert bytes to a string
    simp only [Bool.and_eq_true] at hck
    obtain ⟨⟨h1, h2⟩, h3⟩ := hck
    have v1 := hO h3
    split at h1
    · rename_i e hs
      split at h1
      · rename_i he
        split at h2
        · rename_i hd
          simp only [aop, execOp]
          split
          · trivial
          · rename_i hns
            split
            · rename_i n cs hsrc
              split
              · rename_i hb
                exact does_b2s (td := .string) H hs hd he v1 (by simpa using hns) hsrc hb
              · trivial
            · trivial
        · cases h2
      · cases h1
    · cases h1
  · -- to a bare pointer
    rename_i s d p b
    simp only [Bool.and_eq_true] at hck
    obtain ⟨⟨h1, h2⟩, h3⟩ := hck
    have v1 := hO h3
    split at h1
    · rename_i tt hs
      split at h1
      · rename_i j hj
        have hjs : j.size ≠ 0 := by simpa using h1
        split at h2
        · rename_i hd
          simp only [aop, execOp]
          split
          · rename_i hb
            exact does_toU H hs hd hj hjs v1 (.inl ⟨hb, rfl⟩)
          · rename_i b' o hb
            split
            · rename_i l hl
              exact does_toU H hs hd hj hjs v1 (.inr ⟨_, _, _, hb, hl, rfl⟩)
            · trivial
          · trivial
        · cases h2
      · cases h1
    · cases h1
  · -- from a bare pointer
    rename_i s d p kt n b
    simp only [Bool.and_eq_true] at hck
    obtain ⟨⟨h1, h2⟩, h3⟩ := hck
    have v1 := hO h3
    split at h1
    · rename_i hs
      split at h2
      · rename_i tt hd
        simp only [Bool.and_eq_true, beq_iff_eq, bne_iff_ne, ne_eq] at h2
        obtain ⟨⟨⟨rfl, hj⟩, hn⟩, hn0⟩ := h2
        obtain ⟨j, hj⟩ := Option.isSome_iff_exists.1 hj
        simp only [aop, execOp]
        split
        · rename_i hb
          exact does_frU H hs hd hj hn hn0 v1 (.inl ⟨hb, rfl⟩)
        · rename_i b' o hb
          split
          · rename_i cs kt' hg
            split
            · rename_i hc
              obtain ⟨rfl, rfl, hle⟩ := hc
              exact does_frU H hs hd hj hn hn0 v1 (.inr ⟨_, _, hb, hg, hle, rfl⟩)
            · trivial
          · trivial
        · trivial
      · cases h2
    · cases h1
  · -- to an array's pointer
    simp only [Bool.and_eq_true] at hck
    obtain ⟨h1, h3⟩ := hck
    have v1 := hO h3
    split at h1
    · rename_i m e hu
      simp only [Bool.and_eq_true, beq_iff_eq] at h1
      obtain ⟨rfl, hs⟩ := h1
      simp only [aop, execOp]
      split
      · rename_i b off len cap ex es' ag hb
        rw [hb] at v1
        split
        · rename_i hc
          obtain ⟨c1, rfl, c3⟩ := hc
          exact does_arrp (es := es') H hu v1 (.inl ⟨b, off, len, cap, ex, ag, rfl, c1, c3, rfl⟩)
        · trivial
      · rename_i ex xs hb
        rw [hb] at v1
        split
        · rename_i hc
          exact does_arrp (es := 0) H hu v1 (.inr ⟨ex, xs, rfl, hc.1, hc.2, rfl⟩)
        · trivial
      · trivial
    · cases h1
  · -- an interface value
    simp only [Bool.and_eq_true, beq_iff_eq] at hck
    obtain ⟨⟨rfl, h2⟩, h3⟩ := hck
    have v1 := hO h3
    simp only [aop, execOp]
    split at h2
    · cases h2
    · rename_i td hni hu
      refine Does.same (u := .iface _ (a.eval _)) H ?_ (.ifc _ _ _ v1)
      simp only [Instr.makeInterface, Sem.run_bind, run_underlying hu, Result.andThen_ok]
      cases td <;> first
        | rfl
        | exact absurd rfl (hni _)
    · cases h2
  · -- a function value
    simp only [Bool.and_eq_true] at hck
    obtain ⟨⟨h1, h2⟩, h3⟩ := hck
    split at h1
    · rename_i f g
      have : f = g := by simpa using h1
      subst this
      obtain ⟨l1, a1⟩ := ckOs_spec hg ht h2
      obtain ⟨l2, a2⟩ := ckOs_spec hg ht h3
      simp only [aop, execOp]
      refine Does.same (u := .func (.func f) _ _) H rfl (.fn _ _ _ _ _ (by simpa using l1) (by simpa using l2) (fun j y v hy hv => a1 j y v hy (by simpa using hv)) (fun j y v hy hv => a2 j y v hy (by simpa using hv)))
    · rename_i f g
      have : f = g := by simpa using h1
      subst this
      obtain ⟨l1, a1⟩ := ckOs_spec hg ht h2
      obtain ⟨l2, a2⟩ := ckOs_spec hg ht h3
      simp only [aop, execOp]
      refine Does.same (u := .func (.method f) _ _) H rfl (.fn _ _ _ _ _ (by simpa using l1) (by simpa using l2) (fun j y v hy hv => a1 j y v hy (by simpa using hv)) (fun j y v hy hv => a2 j y v hy (by simpa using hv)))
    · cases h1
  · -- a map
    exact does_mkm H
  · -- make
    simp only [Bool.and_eq_true] at hck
    obtain ⟨⟨h1, h2⟩, h3⟩ := hck
    have v1 := hO h2
    have v2 := hO h3
    split at h1
    · rename_i e hu
      split at h1
      · rename_i i hi
        simp only [Bool.and_eq_true, beq_iff_eq] at h1
        obtain ⟨⟨⟨hs, hb⟩, hag⟩, hz⟩ := h1
        split at hz
        · rename_i zv hzv
          simp only [Bool.and_eq_true, beq_iff_eq] at hz
          simp only [aop, execOp]
          split
          · rename_i l c hl hc
            rw [hl] at v1; rw [hc] at v2
            split
            · rename_i hcond
              generalize a.eval _ = u1 at v1 ⊢
              generalize a.eval _ = u2 at v2 ⊢
              cases v1; cases v2
              exact does_mksl H hu hi hzv hs hb hz.1 hz.2 hcond.1 hcond.2.1 hcond.2.2.1 hcond.2.2.2
            · trivial
          · trivial
        · cases hz
      · cases h1
    · cases h1
  · -- slicing
    simp only [Bool.and_eq_true, Bool.or_eq_true] at hck
    obtain ⟨⟨⟨⟨⟨h1, h2⟩, h3⟩, h4⟩, h5⟩, h6⟩ := hck
    have v1 := hO h2
    simp only [aop, execOp]
    split
    · trivial
    · rename_i hst
      rename_i tt p lo hi mx st es b lo' hi' mx'
      have hst' : (b.ev x t).isStr = st := Classical.not_not.1 hst
      have htd : ∃ d, x.P.underlying tt = some d ∧ (d = .string ∨ ∃ e, d = .slice e ∧ tSize x.P e = some es) := by
        split at h1
        · rename_i hu; exact ⟨_, hu, .inl rfl⟩
        · rename_i e hu; simp only [Bool.and_eq_true, beq_iff_eq] at h1; exact ⟨_, hu, .inr ⟨e, rfl, h1.2⟩⟩
        · cases h1
      have hty : (∃ s, b.ev x t = .str s) → x.P.underlying tt = some .string := fun ⟨s, hs⟩ => by
        rw [hs] at hst'
        split at h1
        · assumption
        · rw [← hst'] at h1; simp [V.isStr] at h1
        · cases h1
      have hty' : (¬ ∃ s, b.ev x t = .str s) → ∃ e, x.P.underlying tt = some (.slice e) := fun hn => by
        have hf : st = false := by
          rw [← hst']
          cases hb : b.ev x t <;> first | rfl | exact absurd ⟨_, hb⟩ hn
        split at h1
        · rw [hf] at h1; cases h1
        · rename_i e hu; exact ⟨e, hu⟩
        · cases h1
      cases hl : bnd x t 0 lo' with
      | none => simp only [hl]; trivial
      | some l =>
        have hlb := bnd_spec (w := w) (P := x.P) hg ht h3 hl
        have hlo : ∀ d, Bd w x.P (lo.map a.eval) d l ∨ (lo.map a.eval = none ∧ l = 0) := fun d => by
          cases lo with
          | none => right; exact ⟨rfl, hlb⟩
          | some p => left; exact hlb
        cases hi' with
        | none =>
          cases hi with
          | some p => simp [ckOo] at h4
          | none =>
            cases mx with
            | some p => simp at h6
            | none =>
              cases mx' with
              | some o => simp [ckOo] at h5
              | none =>
                simp only [Option.map_none, hl]
                cases hv : slcV es (b.ev x t) l none none with
                | none => trivial
                | some v => exact slc_spec (x := x) (hi' := none) (mx' := none) H v1 hv htd hty hty' hlo (fun d => rfl) (fun d => rfl) ⟨fun _ => rfl, fun _ => rfl⟩ ⟨fun _ => rfl, fun _ => rfl⟩ (fun h => absurd rfl h)
        | some ho =>
          cases hi with
          | none => simp [ckOo] at h4
          | some p =>
            cases hh : bnd x t 0 (some ho) with
            | none => simp only [Option.map_some, hl, hh]; trivial
            | some u =>
              have hhb : ∀ d, Bd w x.P (some (a.eval p)) d u := fun d => bnd_spec (w := w) (P := x.P) (d := 0) hg ht h4 hh
              cases mx with
              | none =>
                cases mx' with
                | some o => simp [ckOo] at h5
                | none =>
                  simp only [Option.map_some, Option.map_none, hl, hh]
                  cases hv : slcV es (b.ev x t) l (some u) none with
                  | none => trivial
                  | some v => exact slc_spec (x := x) (hi' := some (a.eval p)) (mx' := none) H v1 hv htd hty hty' hlo hhb (fun d => rfl) ⟨fun _ => rfl, fun _ => rfl⟩ ⟨fun h => (by cases h), fun h => (by cases h)⟩ (fun h => absurd rfl h)
              | some pm =>
                cases mx' with
                | none => simp [ckOo] at h5
                | some om =>
                  cases hm : bnd x t 0 (some om) with
                  | none => simp only [Option.map_some, hl, hh, hm]; trivial
                  | some m =>
                    have hmb : ∀ d, Bd w x.P (some (a.eval pm)) d m := fun d => bnd_spec (w := w) (P := x.P) (d := 0) hg ht h5 hm
                    simp only [Option.map_some, hl, hh, hm]
                    cases hv : slcV es (b.ev x t) l (some u) (some m) with
                    | none => trivial
                    | some v => exact slc_spec (x := x) (hi' := some (a.eval p)) (mx' := some (a.eval pm)) H v1 hv htd hty hty' hlo hhb hmb ⟨fun h => (by cases h), fun h => (by cases h)⟩ ⟨fun h => (by cases h), fun h => (by cases h)⟩ (fun _ h => by cases h)
  · -- slicing an array
    simp only [Bool.and_eq_true, Bool.or_eq_true] at hck
    obtain ⟨⟨⟨⟨⟨h1, h2⟩, h3⟩, h4⟩, h5⟩, h6⟩ := hck
    have v1 := hO h2
    rename_i tt p lo hi mx n es ag b lo' hi' mx'
    split at h1
    · rename_i m e hu
      simp only [Bool.and_eq_true, beq_iff_eq, Bool.or_eq_true] at h1
      obtain ⟨⟨⟨rfl, hs⟩, hag⟩, hag1⟩ := h1
      simp only [aop, execOp]
      split
      · rename_i l u mm hl hh hm
        have hlb := bnd_spec (w := w) (P := x.P) hg ht h3 hl
        have hhb := bnd_spec (w := w) (P := x.P) hg ht h4 hh
        have hmb := bnd_spec (w := w) (P := x.P) hg ht h5 hm
        have hx1 : mx.map a.eval = none → mm = m := fun h => by cases mx with | none => exact hmb | some p => cases h
        have hy1 : mx.map a.eval ≠ none → hi.map a.eval ≠ none := fun h1 h2 => by
          cases mx with
          | none => exact h1 rfl
          | some p => cases hi with | none => simp at h6 | some q => cases h2
        have hag2 : ag = false → es = 1 := fun h => by subst h; simpa using hag1
        split
        · rename_i hc
          split
          · rename_i b' o hb
            rw [hb] at v1
            split
            · rename_i hsome
              exact does_slca H hu hs hag2 v1 hlb hhb hmb hc.1 hc.2.1 hc.2.2 hx1 hy1 (.inl ⟨b', o, rfl, hsome, rfl⟩)
            · trivial
          · rename_i cs o hb
            rw [hb] at v1
            cases hsub : sub cs o (m * es) with
            | none => trivial
            | some c => exact does_slca H hu hs hag2 v1 hlb hhb hmb hc.1 hc.2.1 hc.2.2 hx1 hy1 (.inr ⟨cs, o, c, rfl, hsub, rfl⟩)
          · trivial
        · trivial
      · trivial
    · cases h1
  · -- a field's address
    simp only [Bool.and_eq_true] at hck
    obtain ⟨h1, h2⟩ := hck
    have v1 := hO h2
    split at h1
    · rename_i fs hu
      split at h1
      · rename_i fd hf
        simp only [Bool.and_eq_true, beq_iff_eq] at h1
        obtain ⟨ho, hn⟩ := h1
        split at hn
        · rename_i n hs
          have hn0 : n ≠ 0 := by simpa using hn
          simp only [aop, execOp]
          split
          · rename_i b o hb
            rw [hb] at v1
            exact does_fad H hu hf ho hs hn0 v1 (.inl ⟨b, o, rfl, rfl⟩)
          · rename_i cs o hb
            rw [hb] at v1
            exact does_fad H hu hf ho hs hn0 v1 (.inr ⟨cs, o, rfl, rfl⟩)
          · trivial
        · cases hn
      · cases h1
    · cases h1
  · -- a field
    simp only [Bool.and_eq_true] at hck
    obtain ⟨h1, h2⟩ := hck
    have v1 := hO h2
    split at h1
    · rename_i fs hu
      split at h1
      · rename_i fd hf
        simp only [Bool.and_eq_true, beq_iff_eq] at h1
        obtain ⟨⟨ho, hs⟩, hag⟩ := h1
        simp only [aop, execOp]
        split
        · rename_i cs hb
          rw [hb] at v1
          cases hr : (sub cs _ _).bind (asV _) with
          | none => trivial
          | some v =>
            simp only [Option.bind_eq_some_iff] at hr
            obtain ⟨l, hl, hv⟩ := hr
            exact does_fld H hu hf ho hs hag v1 hl hv
        · trivial
      · cases h1
    · cases h1
  · -- an element's address
    rename_i tt p1 p2 es b1 b2
    simp only [Bool.and_eq_true] at hck
    obtain ⟨⟨h1, h2⟩, h3⟩ := hck
    have v1 := hO h2
    have v2 := hO h3
    split at h1
    · rename_i e hu
      have hs : tSize x.P e = some es := by simpa using h1
      simp only [aop, execOp]
      split
      · rename_i b off len cap ex es' ag k i hb hi
        rw [hb] at v1; rw [hi] at v2
        split
        · rename_i hc
          obtain ⟨rfl, c2, c3⟩ := hc
          generalize a.eval _ = u2 at v2 ⊢
          cases v2
          exact does_iad H hu hs v1 (.inl ⟨b, off, len, cap, ex, ag, rfl, c2, c3, rfl⟩)
        · trivial
      · rename_i ex xs k i hb hi
        rw [hb] at v1; rw [hi] at v2
        split
        · rename_i hc
          generalize a.eval _ = u2 at v2 ⊢
          cases v2
          exact does_iad H hu hs v1 (.inr ⟨ex, xs, rfl, hc.1, hc.2.1, hc.2.2, rfl⟩)
        · trivial
      · trivial
    · cases h1
  · -- an array element's address
    simp only [Bool.and_eq_true] at hck
    obtain ⟨⟨h1, h2⟩, h3⟩ := hck
    have v1 := hO h2
    have v2 := hO h3
    split at h1
    · rename_i m e hu
      simp only [Bool.and_eq_true, beq_iff_eq] at h1
      obtain ⟨rfl, hs⟩ := h1
      simp only [aop, execOp]
      split
      · rename_i b o k i hb hi
        rw [hb] at v1; rw [hi] at v2
        split
        · rename_i hc
          generalize a.eval _ = u2 at v2 ⊢
          cases v2
          exact does_iada H hu hs v1 hc (.inl ⟨b, o, rfl, rfl⟩)
        · trivial
      · rename_i cs o k i hb hi
        rw [hb] at v1; rw [hi] at v2
        split
        · rename_i hc
          generalize a.eval _ = u2 at v2 ⊢
          cases v2
          exact does_iada H hu hs v1 hc (.inr ⟨cs, o, rfl, rfl⟩)
        · trivial
      · trivial
    · cases h1
  · -- a string's byte
    simp only [Bool.and_eq_true] at hck
    obtain ⟨⟨h1, h2⟩, h3⟩ := hck
    have v1 := hO h2
    have v2 := hO h3
    split at h1
    · rename_i hu
      simp only [aop, execOp]
      split
      · rename_i s k i hb hi
        rw [hb] at v1; rw [hi] at v2
        split
        · rename_i hc
          generalize a.eval _ = u2 at v2 ⊢
          cases v2
          exact does_idxs H hu v1 hc
        · trivial
      · trivial
    · cases h1
  · -- an array's element
    simp only [Bool.and_eq_true] at hck
    obtain ⟨⟨h1, h2⟩, h3⟩ := hck
    have v1 := hO h2
    have v2 := hO h3
    split at h1
    · rename_i m e hu
      simp only [Bool.and_eq_true, beq_iff_eq] at h1
      obtain ⟨⟨rfl, hs⟩, hag⟩ := h1
      simp only [aop, execOp]
      split
      · rename_i cs k i hb hi
        rw [hb] at v1; rw [hi] at v2
        split
        · rename_i hc
          cases hr : (sub cs _ _).bind (asV _) with
          | none => trivial
          | some v =>
            simp only [Option.bind_eq_some_iff] at hr
            obtain ⟨l, hl, hv⟩ := hr
            generalize a.eval _ = u2 at v2 ⊢
            cases v2
            exact does_idxa H hu hs hag v1 hc hl hv
        · trivial
      · trivial
    · cases h1
  · -- a look-up
    rename_i tt p q ok k z b c ok'
    simp only [Bool.and_eq_true, beq_iff_eq] at hck
    obtain ⟨⟨⟨h1, h2⟩, h3⟩, rfl⟩ := hck
    have v1 := hO h2
    have v2 := hO h3
    split at h1
    · rename_i kt et hu
      simp only [Bool.and_eq_true] at h1
      obtain ⟨h4, h5⟩ := h1
      split at h4
      · rename_i td hk
        split at h5
        · rename_i zv hz
          simp only [aop, execOp]
          split
          · rename_i hb
            rw [hb] at v1
            generalize a.eval p = u1 at v1 ⊢
            cases v1
            exact does_look_nil H hu hk h4 hz h5
          · rename_i β hb
            rw [hb] at v1
            split
            · rename_i es hget
              cases hf : findM k (c.ev x t) es with
              | none => trivial
              | some r => exact does_look H hu hk h4 hz h5 v1 hget v2 hf
            · trivial
          · trivial
        · cases h5
      · cases h4
    · cases h1
  · -- a map's store
    rename_i tt p q r k b c d
    simp only [Bool.and_eq_true] at hck
    obtain ⟨⟨⟨h1, h2⟩, h3⟩, h4⟩ := hck
    have v1 := hO h2
    have v2 := hO h3
    have v3 := hO h4
    split at h1
    · rename_i kt et hu
      split at h1
      · rename_i td hk
        simp only [aop, execOp]
        split
        · rename_i β hb
          rw [hb] at v1
          split
          · rename_i es hget
            cases hp : putM k (c.ev x t) (d.ev x t) es with
            | none => trivial
            | some es' => exact does_upd H hu hk h1 v1 hget v2 v3 hp
          · trivial
        · trivial
      · cases h1
    · cases h1
  · -- a map literal's store
    rename_i tt p q r k b c d
    simp only [Bool.and_eq_true] at hck
    obtain ⟨⟨⟨h1, h2⟩, h3⟩, h4⟩ := hck
    have v1 := hO h2
    have v2 := hO h3
    have v3 := hO h4
    split at h1
    · rename_i kt et hu
      split at h1
      · rename_i td hk
        simp only [aop, execOp]
        split
        · rename_i β hb
          rw [hb] at v1
          split
          · rename_i es hget
            cases hp : putM k (c.ev x t) (d.ev x t) es with
            | none => trivial
            | some es' => exact does_upd H hu hk h1 v1 hget v2 v3 hp
          · trivial
        · trivial
      · cases h1
    · cases h1
  · -- a map's entry
    rename_i tt p q k z b c
    simp only [Bool.and_eq_true] at hck
    obtain ⟨⟨h1, h2⟩, h3⟩ := hck
    have v1 := hO h2
    have v2 := hO h3
    split at h1
    · rename_i kt et hu
      simp only [Bool.and_eq_true] at h1
      obtain ⟨h11, h12⟩ := h1
      split at h11
      · rename_i td hk
        split at h12
        · rename_i zv hz
          simp only [aop, execOp]
          split
          · rename_i β hb
            rw [hb] at v1
            split
            · rename_i es hget
              cases hf : findM k (c.ev x t) es with
              | none => trivial
              | some r =>
                cases hp : putM k (c.ev x t) (r.getD z) es with
                | none => simp only [hp]; trivial
                | some es' => simp only [hp]; exact does_ment H hu hk h11 hz h12 v1 hget v2 hf hp
            · trivial
          · trivial
        · cases h12
      · cases h11
    · cases h1
  · -- an entry's store
    rename_i tt p q r b c d
    simp only [Bool.and_eq_true] at hck
    obtain ⟨⟨h1, h2⟩, h3⟩ := hck
    have v1 := hO h1
    have v2 := hO h2
    have v3 := hO h3
    simp only [aop, execOp]
    split
    · rename_i β k0 n hb hc
      rw [hb] at v1
      rw [hc] at v2
      split
      · rename_i es hget
        split
        · rename_i e he
          split
          · rename_i hn0
            exact does_ests H v1 v2 hget v3 he hn0
          · trivial
        · trivial
      · trivial
    · trivial
  · -- a type assertion
    rename_i p xt tt ok t' z b ok'
    simp only [Bool.and_eq_true, beq_iff_eq] at hck
    obtain ⟨⟨⟨⟨rfl, rfl⟩, h1⟩, h2⟩, h3⟩ := hck
    have v1 := hO h3
    split at h1
    · cases h1
    · rename_i td hni hu
      split at h2
      · rename_i zv hz
        have hzv : VR E z zv := ckV_spec h2
        simp only [aop, execOp]
        split
        · rename_i ut v hb
          rw [hb] at v1
          generalize a.eval p = u1 at v1 ⊢
          cases v1 with
          | ifc _ _ vv hvv =>
            split
            · rename_i he
              subst he
              refine Does.same (u := if ok then .tuple #[vv, .bool true] else vv) H ?_ ?_
              · simp only [Instr.typeAssert, Sem.run_bind, run_underlying hu, Result.andThen_ok]
                cases td <;> first
                  | (exact absurd rfl (hni _))
                  | (simp; done)
              · cases ok with
                | false => exact hvv
                | true =>
                  refine .tup _ _ rfl (fun j y v hy hv => ?_)
                  match j, hy, hv with
                  | 0, hy, hv => simp at hy hv; subst hy; subst hv; exact hvv
                  | 1, hy, hv => simp at hy hv; subst hy; subst hv; exact .bool _
                  | j + 2, hy, hv => simp at hy
            · rename_i he
              split
              · rename_i hok
                subst hok
                refine Does.same (u := .tuple #[zv, .bool false]) H ?_ ?_
                · simp only [Instr.typeAssert, Sem.run_bind, run_underlying hu, Result.andThen_ok]
                  cases td <;> first
                    | (exact absurd rfl (hni _))
                    | (simp [he, run_zero hz]; done)
                · refine .tup _ _ rfl (fun j y v hy hv => ?_)
                  match j, hy, hv with
                  | 0, hy, hv => simp at hy hv; subst hy; subst hv; exact hzv
                  | 1, hy, hv => simp at hy hv; subst hy; subst hv; exact .bool _
                  | j + 2, hy, hv => simp at hy
              · trivial
        · rename_i hb
          rw [hb] at v1
          generalize a.eval p = u1 at v1 ⊢
          cases v1
          split
          · rename_i hok
            subst hok
            refine Does.same (u := .tuple #[zv, .bool false]) H ?_ ?_
            · simp only [Instr.typeAssert, Sem.run_bind, run_underlying hu, Result.andThen_ok]
              cases td <;> first
                | (exact absurd rfl (hni _))
                | (simp [run_zero hz]; done)
            · refine .tup _ _ rfl (fun j y v hy hv => ?_)
              match j, hy, hv with
              | 0, hy, hv => simp at hy hv; subst hy; subst hv; exact hzv
              | 1, hy, hv => simp at hy hv; subst hy; subst hv; exact .bool _
              | j + 2, hy, hv => simp at hy
          · trivial
        · trivial
      · cases h2
    · cases h1
  · -- a component
    rename_i p n b m
    simp only [Bool.and_eq_true, beq_iff_eq] at hck
    obtain ⟨rfl, h1⟩ := hck
    have v1 := hO h1
    simp only [aop, execOp]
    split
    · rename_i vs hb
      rw [hb] at v1
      cases hv : vs[n]? with
      | none => trivial
      | some v =>
        generalize a.eval p = u1 at v1 ⊢
        cases v1 with
        | tup _ us hl hh =>
          have hlt : n < us.size := by rw [hl]; exact (List.getElem?_eq_some_iff.1 hv).1
          have hu : us[n]? = some us[n] := Array.getElem?_eq_getElem hlt
          exact Does.same (u := us[n]) H (by simp [Instr.extract, hu]) (hh n v _ hv hu)
    · trivial
  · -- a call
    rename_i i c
    have hcargs : ∀ as, ckOs c.args.toList as = true → VRs E (evs x t as) (c.args.map a.eval) := fun as hc => by
      obtain ⟨l1, a1⟩ := ckOs_spec (x := x) hg ht hc
      exact ⟨by simpa using l1, fun j y v hy hv => a1 j y v hy (by simpa using hv)⟩
    split at hck
    · -- len
      rename_i q b hcal
      split at hck
      · rename_i p tt hargs htys
        simp only [Bool.and_eq_true, Bool.or_eq_true, beq_iff_eq] at hck
        obtain ⟨⟨h1, h2⟩, h3⟩ := hck
        have v1 := hO h1
        have e1 : c.args = #[p] := by rw [← Array.toArray_toList (xs := c.args), hargs]
        have e2 : c.argTypes = #[tt] := by rw [← Array.toArray_toList (xs := c.argTypes), htys]
        simp only [aop]
        refine Does.map H fun v hv => ?_
        have hq3 : q = .str ∨ q = .slc ∨ q = .map := by rcases h2 with (h2 | h2) | h2 <;> simp [h2]
        obtain ⟨n, hr, hvr⟩ := run_len (ty := ty) hq3 h3 H v1 hv
        refine ⟨n, ?_, hvr⟩
        simp only [execOp, resolve, hcal, Sem.run_bind, Sem.run_pure, Result.andThen_ok, invoke, builtin, e1, e2, List.map_toArray, List.map_cons, List.map_nil, hr]
      · cases hck
    · -- len of an array
      rename_i n hcal
      split at hck
      · rename_i tt p htys hargs
        split at hck
        · rename_i m e hu
          have hn : m = n := by simpa using hck
          subst hn
          have e1 : c.args = #[p] := by rw [← Array.toArray_toList (xs := c.args), hargs]
          have e2 : c.argTypes = #[tt] := by rw [← Array.toArray_toList (xs := c.argTypes), htys]
          refine Does.same (u := .int .i64 m) H ?_ (.int _ _)
          simp only [execOp, resolve, hcal, Sem.run_bind, Sem.run_pure, Result.andThen_ok, invoke, builtin, e1, e2, List.map_toArray, List.map_cons, List.map_nil]
          simp [Builtin.len_, run_underlying hu, goInt]
        · cases hck
      · cases hck
    · -- append
      rename_i es bt ag kt b d hcal
      split at hck
      · rename_i p q t1 t2 hargs htys
        simp only [Bool.and_eq_true] at hck
        obtain ⟨⟨h1, h2⟩, h3⟩ := hck
        have v1 := hO h1
        have v2 := hO h2
        obtain ⟨e, i, z, T, hkt⟩ := ckAppT_spec h3
        have e1 : c.args = #[p, q] := by rw [← Array.toArray_toList (xs := c.args), hargs]
        have e2 : c.argTypes = #[t1, t2] := by rw [← Array.toArray_toList (xs := c.argTypes), htys]
        have he : (execOp a.eval { dst, op := .call c, type := ty, pos, after, guard := gd }) = (do pure (.value (← Builtin.append_ #[t1, t2] ty #[a.eval p, a.eval q])) : Sem Next) := by
          simp only [execOp, resolve, hcal, e1, e2, List.map_toArray, List.map_cons, List.map_nil]
          rfl
        rw [he]
        simp only [aop]
        split
        · rename_i n ys hsrc
          cases hap : appV h es bt ag kt (b.ev x t) n ys with
          | none => trivial
          | some rz => exact does_app hkt T H v1 v2 hsrc hap
        · trivial
      · cases hck
    · -- copy
      rename_i es b d hcal
      split at hck
      · rename_i p q t1 t2 hargs htys
        simp only [Bool.and_eq_true] at hck
        obtain ⟨⟨h1, h2⟩, h3⟩ := hck
        have v1 := hO h1
        have v2 := hO h2
        split at h3
        · rename_i e hu
          have hs : tSize x.P e = some es := by simpa using h3
          have e1 : c.args = #[p, q] := by rw [← Array.toArray_toList (xs := c.args), hargs]
          have e2 : c.argTypes = #[t1, t2] := by rw [← Array.toArray_toList (xs := c.argTypes), htys]
          have he : (execOp a.eval { dst, op := .call c, type := ty, pos, after, guard := gd }) = (do pure (.value (← Builtin.copy_ #[t1, t2] ty #[a.eval p, a.eval q])) : Sem Next) := by
            simp only [execOp, resolve, hcal, e1, e2, List.map_toArray, List.map_cons, List.map_nil]
            rfl
          rw [he]
          simp only [aop]
          split
          · rename_i n ys hsrc
            split
            · rename_i hb
              rw [hb] at v1
              generalize a.eval p = u1 at v1 ⊢
              cases v1
              exact does_cpy_nil H hu hs v2 hsrc
            · rename_i b' off len cap ex es' ag hb
              rw [hb] at v1
              split
              · rename_i hes
                subst hes
                cases hw : wr h b' off _ with
                | none => trivial
                | some h' => exact does_cpy H hu hs v1 v2 hsrc hw
              · trivial
            · trivial
          · trivial
        · cases h3
      · cases hck
    · -- clear
      rename_i z b hcal
      split at hck
      · rename_i p t1 hargs htys
        simp only [Bool.and_eq_true] at hck
        obtain ⟨h1, h3⟩ := hck
        have v1 := hO h1
        split at h3
        · rename_i e hu
          split at h3
          · rename_i zv hz
            have e1 : c.args = #[p] := by rw [← Array.toArray_toList (xs := c.args), hargs]
            have e2 : c.argTypes = #[t1] := by rw [← Array.toArray_toList (xs := c.argTypes), htys]
            have he : (execOp a.eval { dst, op := .call c, type := ty, pos, after, guard := gd }) = (do pure (.value (← Builtin.clear_ #[t1] ty #[a.eval p])) : Sem Next) := by
              simp only [execOp, resolve, hcal, e1, e2, List.map_toArray, List.map_cons, List.map_nil]
              rfl
            rw [he]
            simp only [aop]
            split
            · rename_i hb
              rw [hb] at v1
              exact does_clr0 H hu v1 (.inl rfl)
            · rename_i b' off len cap ex es ag hb
              rw [hb] at v1
              split
              · split
                · rename_i hlen
                  subst hlen
                  exact does_clr0 H hu v1 (.inr ⟨b', off, cap, ex, es, ag, rfl⟩)
                · rename_i hlen
                  cases hw : wr h b' off _ with
                  | none => trivial
                  | some h' => exact does_clr H hu hz h3 v1 hlen hw
              · trivial
            · trivial
          · cases h3
        · cases h3
      · cases hck
    · -- max
      rename_i b d hcal
      split at hck
      · rename_i p q hargs
        simp only [Bool.and_eq_true] at hck
        obtain ⟨h1, h2⟩ := hck
        have v1 := hO h1
        have v2 := hO h2
        have e1 : c.args = #[p, q] := by rw [← Array.toArray_toList (xs := c.args), hargs]
        simp only [aop]
        split
        · rename_i k m k' n hb hd
          rw [hb] at v1; rw [hd] at v2
          split
          · have u1 : a.eval p = .int k m := by generalize a.eval p = u at v1; cases v1; rfl
            have u2 : a.eval q = .int k' n := by generalize a.eval q = u at v2; cases v2; rfl
            refine Does.same H ?_ (.int _ _)
            simp only [execOp, resolve, hcal, Sem.run_bind, Sem.run_pure, Result.andThen_ok, invoke, builtin, e1, List.map_toArray, List.map_cons, List.map_nil, u1, u2, max_run]
          · trivial
        · trivial
      · cases hck
    · -- min
      rename_i b d hcal
      split at hck
      · rename_i p q hargs
        simp only [Bool.and_eq_true] at hck
        obtain ⟨h1, h2⟩ := hck
        have v1 := hO h1
        have v2 := hO h2
        have e1 : c.args = #[p, q] := by rw [← Array.toArray_toList (xs := c.args), hargs]
        simp only [aop]
        split
        · rename_i k m k' n hb hd
          rw [hb] at v1; rw [hd] at v2
          split
          · have u1 : a.eval p = .int k m := by generalize a.eval p = u at v1; cases v1; rfl
            have u2 : a.eval q = .int k' n := by generalize a.eval q = u at v2; cases v2; rfl
            refine Does.same H ?_ (.int _ _)
            simp only [execOp, resolve, hcal, Sem.run_bind, Sem.run_pure, Result.andThen_ok, invoke, builtin, e1, List.map_toArray, List.map_cons, List.map_nil, u1, u2, min_run]
          · trivial
        · trivial
      · cases hck
    · -- SliceData
      rename_i b hcal
      split at hck
      · rename_i p hargs
        have v1 := hO hck
        have e1 : c.args = #[p] := by rw [← Array.toArray_toList (xs := c.args), hargs]
        have he : (execOp a.eval { dst, op := .call c, type := ty, pos, after, guard := gd }) = (do pure (.value (← Builtin.unsafeSliceData_ c.argTypes ty #[a.eval p])) : Sem Next) := by
          simp only [execOp, resolve, hcal, e1, List.map_toArray, List.map_cons, List.map_nil]
          rfl
        rw [he]
        simp only [aop]
        split
        · rename_i hb
          exact does_sld H v1 (.inl ⟨hb, rfl⟩)
        · rename_i hb
          split
          · rename_i hpos
            exact does_sld H v1 (.inr ⟨_, _, _, _, _, _, _, hb, hpos, rfl⟩)
          · trivial
        · trivial
      · cases hck
    · -- unsafe.String
      rename_i kt b d hcal
      split at hck
      · rename_i p q pt it hargs htys
        simp only [Bool.and_eq_true] at hck
        obtain ⟨⟨h1, h2⟩, h3⟩ := hck
        have v1 := hO h1
        have v2 := hO h2
        split at h3
        · rename_i e hu
          simp only [Bool.and_eq_true, beq_iff_eq] at h3
          obtain ⟨rfl, hcell⟩ := h3
          have e1 : c.args = #[p, q] := by rw [← Array.toArray_toList (xs := c.args), hargs]
          have e2 : c.argTypes = #[pt, it] := by rw [← Array.toArray_toList (xs := c.argTypes), htys]
          have he : (execOp a.eval { dst, op := .call c, type := ty, pos, after, guard := gd }) = (do pure (.value (← Builtin.unsafeString_ #[pt, it] ty #[a.eval p, a.eval q])) : Sem Next) := by
            simp only [execOp, resolve, hcal, e1, e2, List.map_toArray, List.map_cons, List.map_nil]
            rfl
          rw [he]
          have hq : ∀ n, d.ev x t = .int .i64 n → a.eval q = .int .i64 n := fun n hn => by
            rw [hn] at v2
            generalize a.eval q = u2 at v2
            cases v2; rfl
          simp only [aop]
          split
          · rename_i n hb hd
            split
            · rename_i hn
              subst hn
              rw [hq _ hd]
              exact does_ustr_nil H v1 (.inl hb)
            · trivial
          · rename_i b' o n hb hd
            rw [hq _ hd]
            split
            · rename_i hn
              subst hn
              exact does_ustr_nil H v1 (.inr ⟨_, _, hb⟩)
            · rename_i hn
              split
              · rename_i cs kt' hg
                split
                · rename_i hc
                  obtain ⟨rfl, rfl, h0, hmax⟩ := hc
                  split
                  · rename_i l hs
                    split
                    · rename_i hby
                      rw [hb] at v1
                      exact does_ustr H hu hcell v1 hg h0 hn hmax hs hby
                    · trivial
                  · trivial
                · trivial
              · trivial
          · trivial
        · cases h3
      · cases hck
    · -- internal/abi.NoEscape
      rename_i f b hcal
      simp only [Bool.and_eq_true] at hck
      obtain ⟨h1, h2⟩ := hck
      split at h1
      · rename_i fn hf
        simp only [Bool.and_eq_true, beq_iff_eq] at h1
        obtain ⟨⟨hn, ho⟩, hbn⟩ := h1
        split at h2
        · rename_i p hargs
          have v1 := hO h2
          have e1 : c.args = #[p] := by rw [← Array.toArray_toList (xs := c.args), hargs]
          have he : (execOp a.eval { dst, op := .call c, type := ty, pos, after, guard := gd }) = callFunc f #[a.eval p] := by
            simp only [execOp, resolve, hcal, e1, List.map_toArray, List.map_cons, List.map_nil]
            rfl
          rw [he]
          exact does_noEsc H hf hn ho hbn v1
        · cases h2
      · cases h1
    · -- a function's call
      rename_i p b as hcal
      simp only [Bool.and_eq_true] at hck
      have v1 := hO hck.1
      have va := hcargs as hck.2
      simp only [aop]
      cases hcv : callV (b.ev x t) (evs x t as) with
      | none => trivial
      | some fl =>
        obtain ⟨f, l⟩ := fl
        obtain ⟨cap, as', hr, hvr⟩ := callV_spec (x := x) (w := w) v1 va hcv
        intro hca
        refine ⟨as' ++ cap, ?_, hvr⟩
        simp only [execOp, resolve, hcal, Sem.run_bind, hr, Result.andThen_ok, invoke, callFunc_run hca]
    · -- a method's call
      rename_i r m b m' as hcal
      simp only [Bool.and_eq_true, beq_iff_eq] at hck
      obtain ⟨⟨rfl, h1⟩, h2⟩ := hck
      have v1 := hO h1
      have va := hcargs as h2
      simp only [aop]
      split
      · rename_i tt v hb
        rw [hb] at v1
        have main : ∀ (f : FuncId) (p : Option Nat) (rv : V), x.M tt m = some (f, p) → ((p = none ∧ rv = v) ∨ ∃ off cs, p = some off ∧ v = .agg cs ∧ cs[off]? = some rv) →
            Does x w0 E w ((execOp a.eval { dst, op := .call c, type := ty, pos, after, guard := gd }).run x.P w) (some (.call f (rv :: evs x t as))) := fun f p rv hm hrv hca => by
          have hckm := hx tt m f p hm
          generalize hru : a.eval r = u1 at v1
          cases v1 with
          | ifc _ _ uu hvv =>
            have hdp : 0 < Made.depth := by decide
            obtain ⟨n, hn⟩ : ∃ n, x.P.types.size + Made.depth = n + 1 := ⟨x.P.types.size + Made.depth - 1, by omega⟩
            obtain ⟨ru, hr, hvr⟩ := method_run (P := x.P) (w := w) hckm n hvv hrv
            refine ⟨#[ru] ++ c.args.map a.eval, ?_, ?_⟩
            · simp only [execOp, resolve, hcal, Sem.run_bind, Sem.run_pure, Result.andThen_ok, invoke, hru]
              have h0 : (#[Value.iface tt uu] ++ Array.map a.eval c.args)[0]? = some (.iface tt uu) := by rw [Array.getElem?_append_left (by simp)]; rfl
              have h1' : (#[Value.iface tt uu] ++ Array.map a.eval c.args).extract 1 (#[Value.iface tt uu] ++ Array.map a.eval c.args).size = Array.map a.eval c.args := by
                apply Array.ext'
                simp [Array.toList_extract, List.extract]
                exact List.take_of_length_le (by simp)
              simp only [h0, h1', callMethod, Sem.run_bind, run_program, Result.andThen_ok, hn, hr, callFunc_run hca]
            · have : VRs E [rv] #[ru] := ⟨rfl, fun j y v hy hv => by
                cases j with
                | zero => simp at hy hv; subst hy; subst hv; exact hvr
                | succ j => simp at hy⟩
              exact VRs.append this va
        split
        · rename_i f hm
          exact main f none v hm (.inl ⟨rfl, rfl⟩)
        · rename_i f off hm
          split
          · rename_i cs
            cases hcs : cs[off]? with
            | none => trivial
            | some rv => exact main f (some off) rv hm (.inr ⟨off, cs, rfl, rfl, hcs⟩)
          · trivial
        · trivial
      · trivial
    · exact j_sound hck dst ty pos after gd H hg ht
    · cases hck
  · -- a deferred call
    rename_i c b as
    split at hck
    · rename_i p hcal
      simp only [Bool.and_eq_true] at hck
      have v1 := hO hck.1
      obtain ⟨l1, a1⟩ := ckOs_spec (x := x) hg ht hck.2
      have va : VRs E (evs x t as) (c.args.map a.eval) := ⟨by simpa using l1, fun j y v hy hv => a1 j y v hy (by simpa using hv)⟩
      simp only [aop]
      cases hcv : callV (b.ev x t) (evs x t as) with
      | none => trivial
      | some fl =>
        obtain ⟨f, l⟩ := fl
        obtain ⟨cap, as', hr, hvr⟩ := callV_spec (x := x) (w := w) v1 va hcv
        exact ⟨_, cap, by simp only [execOp, resolve, hcal, Sem.run_bind, hr, Result.andThen_ok]; rfl, rfl, hvr⟩
    · cases hck
  · -- a panic
    rename_i p b
    have v1 := hO hck
    simp only [aop]
    split
    · rename_i tt v hb
      rw [hb] at v1
      generalize hru : a.eval p = u1 at v1
      cases v1 with
      | ifc _ _ uu hvv => exact ⟨_, by simp [execOp, Instr.panic, hru], .ifc _ _ _ hvv⟩
    · trivial
  · -- some more
    exact j_sound hck dst ty pos after gd H hg ht
  · cases hck
end
end Go.Vs
namespace Go.Vs
open Go.RowKit

def J.silent : J → Bool
  | .mnz .. => false
  | .mkt .. => false
  | .cvb .. => false
  | .apm .. => false
  | _ => true

/-- Looks at no block. -/
def I.silent : I → Bool
  | .mov _ | .pick .. | .build .. | .bin .. | .un .. | .cvi .. | .cvs _ | .arrp .. | .mki .. | .mkf .. | .slc .. | .fad .. | .fld .. | .iad .. | .iada .. | .idxs .. | .idxa .. | .ext .. | .lenc _ | .max .. | .min .. | .nilck _ | .asrt .. | .noEsc _ | .sld _ => true
  | .j k => k.silent
  | .mks fz _ _ _ _ _ _ => fz
  | .s2b fz _ => fz
  | .len q _ => q != .map
  | _ => false

/-- Looks at blocks, and changes none. -/
def I.reads : I → Bool
  | .load .. | .look .. | .len .. | .b2s _ | .slca .. | .toU _ | .frU .. => true
  | i => i.silent

section
variable {x : X}

theorem ev_congr {t t' : Nat → V} {a : O} (h : ∀ n ∈ a.use, t n = t' n) : a.ev x t = a.ev x t' := by
  cases a with
  | t n => exact h n (by simp [O.use])
  | _ => rfl

theorem evs_congr {t t' : Nat → V} {l : List O} (h : ∀ n ∈ usesO l, t n = t' n) : evs x t l = evs x t' l := by
  unfold evs
  exact List.map_congr_left fun a ha => ev_congr fun n hn => h n (by unfold usesO; exact List.mem_flatMap.2 ⟨a, ha, hn⟩)

theorem bnd_congr {t t' : Nat → V} {d : Nat} {o : Option O} (h : ∀ n ∈ useOo o, t n = t' n) : bnd x t d o = bnd x t' d o := by
  cases o with
  | none => rfl
  | some a => simp only [bnd, ev_congr (x := x) (t := t) (t' := t') (a := a) h]

theorem aopJ_congr {t t' : Nat → V} {h : Hp} {i : J} (hh : ∀ n ∈ i.uses, t n = t' n) : aopJ x t h i = aopJ x t' h i := by
  cases i with
  | cap a => simp only [aopJ, ev_congr (x := x) (t := t) (t' := t') (a := a) hh]
  | slw es a b => simp only [aopJ, ev_congr (x := x) (t := t) (t' := t') (a := a) fun n hn => hh n (List.mem_append.2 (.inl hn)), ev_congr (x := x) (t := t) (t' := t') (a := b) fun n hn => hh n (List.mem_append.2 (.inr hn))]
  | min3 a b c =>
    simp only [J.uses, List.mem_append] at hh
    simp only [aopJ, ev_congr (x := x) (t := t) (t' := t') (a := a) fun n hn => hh n (.inl (.inl hn)), ev_congr (x := x) (t := t) (t' := t') (a := b) fun n hn => hh n (.inl (.inr hn)), ev_congr (x := x) (t := t) (t' := t') (a := c) fun n hn => hh n (.inr hn)]
  | mnz ty a => simp only [aopJ, ev_congr (x := x) (t := t) (t' := t') (a := a) hh]
  | mkz es bt ag z a b => simp only [aopJ, ev_congr (x := x) (t := t) (t' := t') (a := a) fun n hn => hh n (List.mem_append.2 (.inl hn)), ev_congr (x := x) (t := t) (t' := t') (a := b) fun n hn => hh n (List.mem_append.2 (.inr hn))]
  | apm es bt ag z a b => simp only [aopJ, ev_congr (x := x) (t := t) (t' := t') (a := a) fun n hn => hh n (List.mem_append.2 (.inl hn)), ev_congr (x := x) (t := t) (t' := t') (a := b) fun n hn => hh n (List.mem_append.2 (.inr hn))]
  | cvb ty a => simp only [aopJ, ev_congr (x := x) (t := t) (t' := t') (a := a) hh]
  | mkt bt z len ps ty =>
    have : (ps.map fun (i, a) => (i * 1, 1, O.ev x t a)) = (ps.map fun (i, a) => (i * 1, 1, O.ev x t' a)) :=
      List.map_congr_left fun p hp => by
        obtain ⟨o, a⟩ := p
        simp only [Prod.mk.injEq, true_and]
        exact ev_congr fun k hk => hh k (List.mem_flatMap.2 ⟨_, hp, hk⟩)
    simp only [aopJ, this]
  | adc a b c =>
    simp only [J.uses, List.mem_append] at hh
    simp only [aopJ, ev_congr (x := x) (t := t) (t' := t') (a := a) fun n hn => hh n (.inl (.inl hn)), ev_congr (x := x) (t := t) (t' := t') (a := b) fun n hn => hh n (.inl (.inr hn)), ev_congr (x := x) (t := t) (t' := t') (a := c) fun n hn => hh n (.inr hn)]

theorem aop_congr {t t' : Nat → V} {h : Hp} {i : I} (hh : ∀ n ∈ i.uses, t n = t' n) : aop x t h i = aop x t' h i := by
  cases i
  case build z ps =>
    have : (ps.map fun (o, n, a) => (o, n, O.ev x t a)) = (ps.map fun (o, n, a) => (o, n, O.ev x t' a)) :=
      List.map_congr_left fun p hp => by
        obtain ⟨o, n, a⟩ := p
        simp only [Prod.mk.injEq, true_and]
        exact ev_congr fun k hk => hh k (List.mem_flatMap.2 ⟨_, hp, hk⟩)
    simp only [aop, this]
  case mks fz es bt ag z len ps =>
    have : (ps.map fun (i, a) => (i * es, es, O.ev x t a)) = (ps.map fun (i, a) => (i * es, es, O.ev x t' a)) :=
      List.map_congr_left fun p hp => by
        obtain ⟨o, a⟩ := p
        simp only [Prod.mk.injEq, true_and]
        exact ev_congr fun k hk => hh k (List.mem_flatMap.2 ⟨_, hp, hk⟩)
    simp only [aop, this]
  case new => rfl
  case mkm => rfl
  case lenc => rfl
  case recov => rfl
  case j k => exact aopJ_congr hh
  all_goals
    simp only [I.uses, List.mem_append] at hh
    simp only [aop]
    first
      | (rename_i a; rw [ev_congr (x := x) (a := a) fun n hn => hh n (by first | exact hn | exact .inl hn)]; done)
      | (rename_i a b; rw [ev_congr (x := x) (a := a) fun n hn => hh n hn]; done)
      | (rename_i a b; rw [ev_congr (x := x) (a := b) fun n hn => hh n hn]; done)
      | (rename_i a b; rw [ev_congr (x := x) (a := a) fun n hn => hh n (.inl hn), ev_congr (x := x) (a := b) fun n hn => hh n (.inr hn)]; done)
      | (rename_i a b; rw [ev_congr (x := x) (a := a) fun n hn => hh n (.inl hn), evs_congr (x := x) (l := b) fun n hn => hh n (.inr hn)]; done)
      | (rename_i a m b; rw [ev_congr (x := x) (a := a) fun n hn => hh n (.inl hn), evs_congr (x := x) (l := b) fun n hn => hh n (.inr hn)]; done)
      | (rename_i a b; rw [evs_congr (x := x) (l := a) fun n hn => hh n (.inl hn), evs_congr (x := x) (l := b) fun n hn => hh n (.inr hn)]; done)
      | (rename_i a b c; rw [ev_congr (x := x) (a := a) fun n hn => hh n (.inl (.inl hn)), ev_congr (x := x) (a := b) fun n hn => hh n (.inl (.inr hn)), ev_congr (x := x) (a := c) fun n hn => hh n (.inr hn)]; done)
      | (rename_i a b ok; rw [ev_congr (x := x) (a := a) fun n hn => hh n (.inl hn), ev_congr (x := x) (a := b) fun n hn => hh n (.inr hn)]; done)
      | (rename_i a ok; rw [ev_congr (x := x) (a := a) fun n hn => hh n hn]; done)
      | (rename_i a b c d
         have e0 := ev_congr (x := x) (t := t) (t' := t') (a := a) fun n hn => hh n (.inl (.inl (.inl hn)))
         have e1 : ∀ dd, bnd x t dd b = bnd x t' dd b := fun dd => bnd_congr fun n hn => hh n (.inl (.inl (.inr hn)))
         have e2 : ∀ dd, bnd x t dd c = bnd x t' dd c := fun dd => bnd_congr fun n hn => hh n (.inl (.inr hn))
         have e3 : ∀ dd, bnd x t dd d = bnd x t' dd d := fun dd => bnd_congr fun n hn => hh n (.inr hn)
         cases c <;> cases d <;> simp only [Option.map_some, Option.map_none, e0, e1, e2, e3])

/-! ### operations that leave the heap alone -/
def Rz.v : Rz → Option V
  | .val v _ => some v
  | _ => none

theorem mapv {α : Type} (o : Option α) (f : α → V) (h : Hp) : o.map (fun a => Rz.val (f a) h) = ((o.map fun a => Rz.val (f a) []).bind Rz.v).map fun v => .val v h := by cases o <;> rfl

theorem silentJ_eq {t : Nat → V} {i : J} (hs : i.silent = true) (h : Hp) : aopJ x t h i = ((aopJ x t [] i).bind Rz.v).map fun v => .val v h := by
  cases i
  all_goals first
    | (cases hs; done)
    | (simp only [aopJ]; (repeat' split) <;> first | rfl | exact mapv _ _ h)

theorem silent_eq {t : Nat → V} {i : I} (hs : i.silent = true) (h : Hp) : aop x t h i = ((aop x t [] i).bind Rz.v).map fun v => .val v h := by
  cases i
  case mks fz es bt ag z len ps =>
    have : fz = true := hs
    subst this
    simp only [aop]
    split <;> rfl
  case s2b fz a =>
    have : fz = true := hs
    subst this
    simp only [aop]
    split <;> rfl
  case len q a =>
    have hq : q ≠ .map := by simpa [I.silent] using hs
    simp only [aop]
    have : lenV h q (a.ev x t) = lenV [] q (a.ev x t) := by
      unfold lenV
      split <;> first | rfl | (rw [if_neg hq, if_neg hq])
    rw [this]
    exact mapv _ _ h
  case j k => exact silentJ_eq hs h
  all_goals first
    | (cases hs; done)
    | (simp only [aop]; (repeat' split) <;> first | rfl | exact mapv _ _ h)

theorem reads_eq {t : Nat → V} {i : I} (hs : i.reads = true) {h : Hp} {rz : Rz} (hr : aop x t h i = some rz) : ∃ v, rz = .val v h := by
  cases hsi : i.silent with
  | true =>
    rw [silent_eq hsi h] at hr
    simp only [Option.map_eq_some_iff] at hr
    obtain ⟨v, _, rfl⟩ := hr
    exact ⟨v, rfl⟩
  | false =>
    cases i
    case load n ag a => simp only [aop, Option.map_eq_some_iff] at hr; obtain ⟨v, _, rfl⟩ := hr; exact ⟨v, rfl⟩
    case len q a => simp only [aop, Option.map_eq_some_iff] at hr; obtain ⟨v, _, rfl⟩ := hr; exact ⟨v, rfl⟩
    case look q z a b ok =>
      simp only [aop] at hr
      split at hr
      · cases hr; exact ⟨_, rfl⟩
      · split at hr
        · simp only [Option.map_eq_some_iff] at hr; obtain ⟨v, _, rfl⟩ := hr; exact ⟨_, rfl⟩
        · cases hr
      · cases hr
    case b2s a =>
      simp only [aop] at hr
      split at hr
      · cases hr
      · split at hr
        · split at hr
          · cases hr; exact ⟨_, rfl⟩
          · cases hr
        · cases hr
    case toU a =>
      simp only [aop] at hr
      split at hr
      · cases hr; exact ⟨_, rfl⟩
      · split at hr
        · cases hr; exact ⟨_, rfl⟩
        · cases hr
      · cases hr
    case frU ty n a =>
      simp only [aop] at hr
      split at hr
      · cases hr; exact ⟨_, rfl⟩
      · split at hr
        · split at hr
          · cases hr; exact ⟨_, rfl⟩
          · cases hr
        · cases hr
      · cases hr
    case slca n es ag a lo hi mx =>
      simp only [aop] at hr
      split at hr
      · split at hr
        · split at hr
          · split at hr
            · cases hr; exact ⟨_, rfl⟩
            · cases hr
          · simp only [Option.map_eq_some_iff] at hr; obtain ⟨v, _, rfl⟩ := hr; exact ⟨_, rfl⟩
          · cases hr
        · cases hr
      · cases hr
    all_goals first
      | (exact absurd hs (by simp [I.reads, hsi]))
      | (simp [I.reads, I.silent] at hs hsi; done)
      | (simp [I.reads, I.silent] at hs hsi; exact absurd hs (by simp [hsi]))

end
end Go.Vs
