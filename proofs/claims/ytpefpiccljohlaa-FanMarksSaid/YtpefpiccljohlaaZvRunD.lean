/- Every instruction does what is told (2). -/
import Derived.Test.YtpefpiccljohlaaZvRunC
import Derived.Test.YtpefpiccljohlaaZvUns
namespace Go.Vs
open Go.RowKit

section
variable {w0 w : World} {E : Env} {h : Hp} {x : X}

theorem Does.map {r : Result Next} {o : Option V} (H : SR w0 E h w) (hr : ∀ v, o = some v → ∃ u, r = .ok (.value u) w ∧ VR E v u) : Does x w0 E w r (o.map fun v => .val v h) := by
  cases o with
  | none => trivial
  | some v => obtain ⟨u, h1, h2⟩ := hr v rfl; exact Does.same H h1 h2

set_option linter.unusedSimpArgs false in
set_option maxHeartbeats 2000000 in
theorem op_sound (hx : XOk x) {op : Op} {i : I} (hck : ckI x.P op i = true) (dst : Option Tmp) (ty : TypeId) (pos : String) (after : Array Edge) (gd : Option (Nat × Bool)) {t : Nat → V} {a : Act} (H : SR w0 E h w) (hg : GR x E) (ht : ∀ n, VR E (t n) (a.tmps.getD n undef)) :
    Does x w0 E w ((execOp a.eval { dst, op, type := ty, pos, after, guard := gd }).run x.P w) (aop x t h i) := by
  have hO : ∀ {p : Operand} {o : O}, ckO p o = true → VR E (o.ev x t) (a.eval p) := fun hc => ckO_spec hg ht hc
  unfold ckI at hck
  split at hck
  · -- move
    exact Does.same H rfl (hO hck)
  · -- assign
    exact Does.same H rfl (hO hck)
  · -- pick
    simp only [Bool.and_eq_true] at hck
    obtain ⟨⟨h1, h2⟩, h3⟩ := hck
    have v1 := hO h1; have v2 := hO h2; have v3 := hO h3
    simp only [aop, execOp]
    split
    · rename_i c hc
      rw [hc] at v1
      generalize a.eval _ = u1 at v1 ⊢
      cases v1
      cases c with
      | true => exact Does.same H (by simp [asBool]) v2
      | false => exact Does.same H (by simp [asBool]) v3
    · trivial
  · -- alloc
    simp only [Bool.and_eq_true] at hck
    obtain ⟨hty, hck⟩ := hck
    split at hck
    · rename_i z hz
      exact does_new H hz hck (ckTy_spec hty)
    · cases hck
  · -- box
    simp only [Bool.and_eq_true] at hck
    simp only [aop, execOp]
    split
    · rename_i h1; exact does_box (ckTy_spec hck.1) H (hO hck.2) h1
    · trivial
  · -- build
    rename_i tt ps z qs
    have hpe : (ps.map fun (i, x) => (i, a.eval x)) = ((ps.toList.map fun (i, x) => (i, a.eval x))).toArray := by cases ps; simp
    split at hck
    · rename_i zv fs hz hu
      split at hck
      · rename_i l hl
        simp only [Bool.and_eq_true] at hck
        obtain ⟨hlen, hall⟩ := ckParts_spec hg ht hck.2
        simp only [aop, execOp]
        cases hf : fillV z (qs.map fun (o, n, a) => (o, n, a.ev x t)) with
        | none => trivial
        | some cs =>
          rw [hpe]
          exact does_build_struct H hz hu hl hck.1 hlen hall hf
      · cases hck
    · rename_i zv n e hz hu
      split at hck
      · rename_i es hs
        simp only [Bool.and_eq_true] at hck
        obtain ⟨hlen, hall⟩ := ckPartsA_spec hg ht hck.2
        simp only [aop, execOp]
        cases hf : fillV z (qs.map fun (o, n, a) => (o, n, a.ev x t)) with
        | none => trivial
        | some cs =>
          rw [hpe]
          exact does_build_array H hz hu hs hck.1 hlen hall hf
      · cases hck
    · cases hck
  · -- buildSlice
    rename_i tt n ps fz es bt ag z len qs
    have hpe : (ps.map fun (i, x) => (i, a.eval x)) = ((ps.toList.map fun (i, x) => (i, a.eval x))).toArray := by cases ps; simp
    split at hck
    · rename_i e hu
      simp only [Bool.and_eq_true, beq_iff_eq, Bool.or_eq_true, decide_eq_true_eq] at hck
      obtain ⟨⟨⟨⟨⟨⟨⟨hs, hag⟩, hag1⟩, hn⟩, hlim⟩, hzz⟩, hp⟩, hzl⟩ := hck
      subst hn
      split at hzz
      · rename_i zv hz
        obtain ⟨hlen, hall⟩ := ckPartsI_spec (es := es) hg ht hp
        simp only [aop, execOp]
        split
        · rename_i cs hf
          have hcl : cs.length = n * es := by
            have key : ∀ (qs : List (Nat × Nat × V)) (zs cs : List V), fillV zs qs = some cs → cs.length = zs.length := by
              intro qs
              induction qs with
              | nil => intro zs cs h; simp [fillV] at h; rw [h]
              | cons q r ih =>
                intro zs cs h
                obtain ⟨o, n, v⟩ := q
                simp only [fillV] at h
                split at h
                · rw [ih _ _ h, setAll_length]
                · cases h
            rw [key _ _ _ hf, hzl]
          rw [hpe]
          have := does_mks (fz := fz) (ag := ag) H (.inr hz) hu hs (fun h => by subst h; simpa using hag1) hlim (by have := ckVs_spec (E := E) hzz; simpa [zeroPat] using this) hlen hall hf hcl
          cases fz <;> exact this
        · trivial
      · cases hzz
    · cases hck
  · -- load
    simp only [Bool.and_eq_true, beq_iff_eq] at hck
    obtain ⟨⟨h1, h2⟩, h3⟩ := hck
    simp only [aop, execOp]
    cases hr : (rd h (_ : V) _).bind (asV _) with
    | none => trivial
    | some v =>
      simp only [Option.bind_eq_some_iff] at hr
      obtain ⟨l, hl, hv⟩ := hr
      exact does_load H h1 h2 (hO h3) hl hv
  · -- store
    simp only [Bool.and_eq_true, beq_iff_eq] at hck
    obtain ⟨⟨h1, h2⟩, h3⟩ := hck
    have v1 := hO h2
    simp only [aop, execOp]
    split
    · rename_i b o hb
      rw [hb] at v1
      split
      · rename_i hc
        cases hw : wr h b o _ with
        | none => trivial
        | some h' => exact does_store H h1 v1 (hO h3) hc.1 hc.2 hw
      · trivial
    · trivial
  · -- nilCheck
    have v1 := hO hck
    simp only [aop, execOp]
    generalize a.eval _ = u1 at v1 ⊢
    generalize O.ev x t _ = y at v1 ⊢
    cases v1 with
    | ptr b o ad h1 h2 => exact Does.same H rfl (.ptr b o ad h1 h2)
    | fp cs off b p vals h1 h2 h3 => exact Does.same H rfl (.fp cs off b p vals h1 h2 h3)
    | fn f first cap first' cap' h1 h2 h3 h4 =>
      cases f with
      | func f => exact Does.same H rfl (.fn _ _ _ first' cap' h1 h2 h3 h4)
      | _ => trivial
    | _ => trivial
  · -- binOp
    simp only [Bool.and_eq_true, beq_iff_eq] at hck
    obtain ⟨⟨⟨rfl, h1⟩, h2⟩, h3⟩ := hck
    simp only [aop, execOp]
    split
    · trivial
    · cases hv : binV _ _ (_ : V) _ with
      | none => trivial
      | some v => exact does_bin H h2 h3 h1 (hO h2) (hO h3) hv
  · -- two pointers
    simp only [Bool.and_eq_true, beq_iff_eq] at hck
    obtain ⟨⟨⟨rfl, h1⟩, h2⟩, h3⟩ := hck
    have v1 := hO h2
    have v2 := hO h3
    split at h1
    · rename_i e hu
      simp only [aop, execOp]
      split
      · rename_i b o b' o' hb hb'
        rw [hb] at v1; rw [hb'] at v2
        split
        · rename_i hc
          obtain ⟨rfl, rfl, hg⟩ := hc
          exact does_pne H hu h1 v1 v2 hg
        · trivial
      · trivial
    · cases h1
  · -- unOp
    simp only [Bool.and_eq_true, beq_iff_eq] at hck
    obtain ⟨rfl, h1⟩ := hck
    simp only [aop, execOp]
    refine Does.map H fun v hv => ?_
    obtain ⟨r, hr, hvr⟩ := run_uni (P := x.P) (w := w) (hO h1) hv
    exact ⟨r, by simp [hr], hvr⟩
  · -- convert to an int
    rename_i s1 d1 p1 k1 b1
    simp only [Bool.and_eq_true] at hck
    obtain ⟨⟨h1, h2⟩, h3⟩ := hck
    have v1 := hO h3
    obtain ⟨td, hs⟩ := Option.isSome_iff_exists.1 h1
    split at h2
    · rename_i k' hd
      have hk : k1 = k' := by simpa using h2
      subst hk
      simp only [aop, execOp]
      split
      · rename_i k2 n hn
        rw [hn] at v1
        generalize a.eval _ = u1 at v1 ⊢
        cases v1
        exact Does.same H (by simp only [convert, Sem.run_bind, run_underlying hs, run_underlying hd, Result.andThen_ok]; rfl) (.int _ _)
      · trivial
    · cases h2
  · -- convert a string to a string
    simp only [Bool.and_eq_true] at hck
    obtain ⟨⟨h1, h2⟩, h3⟩ := hck
    have v1 := hO h3
    obtain ⟨td, hs⟩ := Option.isSome_iff_exists.1 h1
    split at h2
    · rename_i hd
      simp only [aop, execOp]
      split
      · rename_i s hn
        rw [hn] at v1
        generalize a.eval _ = u1 at v1 ⊢
        cases v1
        refine Does.same (u := .string ⟨s.toArray⟩) H ?_ (.str _)
        simp only [convert, Sem.run_bind, run_underlying hs, run_underlying hd, Result.andThen_ok]
        rfl
      · trivial
    · cases h2
  · -- convert a string to bytes
    simp only [Bool.and_eq_true] at hck
    obtain ⟨⟨h1, h2⟩, h3⟩ := hck
    have v1 := hO h3
    obtain ⟨td, hs⟩ := Option.isSome_iff_exists.1 h1
    split at h2
    · rename_i e hd
      split at h2
      · rename_i he
        simp only [aop, execOp]
        split
        · rename_i s hn
          rw [hn] at v1
          have := does_s2b (fz := ‹Bool›) H hs hd he v1
          split
          · rename_i hf; rw [if_pos hf] at this; exact this
          · rename_i hf; rw [if_neg hf] at this; exact this
        · trivial
      · cases h2
    · cases h2
  · -- convert bytes to a string
    simp only [Bool.and_eq_true] at hck
    obtain ⟨⟨h1, h2⟩, h3⟩ := hck
    have v1 := hO h3
    split at h1
    · rename_i e hs
      split at h1
      · rename_i he
        split at h2
        · rename_i hd
          simp only [aop, execOp]
          split
          · trivial
          · rename_i hns
            split
            · rename_i n cs hsrc
              split
              · rename_i hb
                exact does_b2s (td := .string) H hs hd he v1 (by simpa using hns) hsrc hb
              · trivial
            · trivial
        · cases h2
      · cases h1
    · cases h1
  · -- to a bare pointer
    rename_i s d p b
    simp only [Bool.and_eq_true] at hck
    obtain ⟨⟨h1, h2⟩, h3⟩ := hck
    have v1 := hO h3
    split at h1
    · rename_i tt hs
      split at h1
      · rename_i j hj
        have hjs : j.size ≠ 0 := by simpa using h1
        split at h2
        · rename_i hd
          simp only [aop, execOp]
          split
          · rename_i hb
            exact does_toU H hs hd hj hjs v1 (.inl ⟨hb, rfl⟩)
          · rename_i b' o hb
            split
            · rename_i l hl
              exact does_toU H hs hd hj hjs v1 (.inr ⟨_, _, _, hb, hl, rfl⟩)
            · trivial
          · trivial
        · cases h2
      · cases h1
    · cases h1
  · -- from a bare pointer
    rename_i s d p kt n b
    simp only [Bool.and_eq_true] at hck
    obtain ⟨⟨h1, h2⟩, h3⟩ := hck
    have v1 := hO h3
    split at h1
    · rename_i hs
      split at h2
      · rename_i tt hd
        simp only [Bool.and_eq_true, beq_iff_eq, bne_iff_ne, ne_eq] at h2
        obtain ⟨⟨⟨rfl, hj⟩, hn⟩, hn0⟩ := h2
        obtain ⟨j, hj⟩ := Option.isSome_iff_exists.1 hj
        simp only [aop, execOp]
        split
        · rename_i hb
          exact does_frU H hs hd hj hn hn0 v1 (.inl ⟨hb, rfl⟩)
        · rename_i b' o hb
          split
          · rename_i cs kt' hg
            split
            · rename_i hc
              obtain ⟨rfl, rfl, hle⟩ := hc
              exact does_frU H hs hd hj hn hn0 v1 (.inr ⟨_, _, hb, hg, hle, rfl⟩)
            · trivial
          · trivial
        · trivial
      · cases h2
    · cases h1
  · -- to an array's pointer
    simp only [Bool.and_eq_true] at hck
    obtain ⟨h1, h3⟩ := hck
    have v1 := hO h3
    split at h1
    · rename_i m e hu
      simp only [Bool.and_eq_true, beq_iff_eq] at h1
      obtain ⟨rfl, hs⟩ := h1
      simp only [aop, execOp]
      split
      · rename_i b off len cap ex es' ag hb
        rw [hb] at v1
        split
        · rename_i hc
          obtain ⟨c1, rfl, c3⟩ := hc
          exact does_arrp (es := es') H hu v1 (.inl ⟨b, off, len, cap, ex, ag, rfl, c1, c3, rfl⟩)
        · trivial
      · rename_i ex xs hb
        rw [hb] at v1
        split
        · rename_i hc
          exact does_arrp (es := 0) H hu v1 (.inr ⟨ex, xs, rfl, hc.1, hc.2, rfl⟩)
        · trivial
      · trivial
    · cases h1
  · -- an interface value
    simp only [Bool.and_eq_true, beq_iff_eq] at hck
    obtain ⟨⟨rfl, h2⟩, h3⟩ := hck
    have v1 := hO h3
    simp only [aop, execOp]
    split at h2
    · cases h2
    · rename_i td hni hu
      refine Does.same (u := .iface _ (a.eval _)) H ?_ (.ifc _ _ _ v1)
      simp only [Instr.makeInterface, Sem.run_bind, run_underlying hu, Result.andThen_ok]
      cases td <;> first
        | rfl
        | exact absurd rfl (hni _)
    · cases h2
  · -- a function value
    simp only [Bool.and_eq_true] at hck
    obtain ⟨⟨h1, h2⟩, h3⟩ := hck
    split at h1
    · rename_i f g
      have : f = g := by simpa using h1
      subst this
      obtain ⟨l1, a1⟩ := ckOs_spec hg ht h2
      obtain ⟨l2, a2⟩ := ckOs_spec hg ht h3
      simp only [aop, execOp]
      refine Does.same (u := .func (.func f) _ _) H rfl (.fn _ _ _ _ _ (by simpa using l1) (by simpa using l2) (fun j y v hy hv => a1 j y v hy (by simpa using hv)) (fun j y v hy hv => a2 j y v hy (by simpa using hv)))
    · cases h1
  · -- a map
    exact does_mkm H
  · -- make
    simp only [Bool.and_eq_true] at hck
    obtain ⟨⟨h1, h2⟩, h3⟩ := hck
    have v1 := hO h2
    have v2 := hO h3
    split at h1
    · rename_i e hu
      split at h1
      · rename_i i hi
        simp only [Bool.and_eq_true, beq_iff_eq] at h1
        obtain ⟨⟨⟨hs, hb⟩, hag⟩, hz⟩ := h1
        split at hz
        · rename_i zv hzv
          simp only [Bool.and_eq_true, beq_iff_eq] at hz
          simp only [aop, execOp]
          split
          · rename_i l c hl hc
            rw [hl] at v1; rw [hc] at v2
            split
            · rename_i hcond
              generalize a.eval _ = u1 at v1 ⊢
              generalize a.eval _ = u2 at v2 ⊢
              cases v1; cases v2
              exact does_mksl H hu hi hzv hs hb hz.1 hz.2 hcond.1 hcond.2.1 hcond.2.2.1 hcond.2.2.2
            · trivial
          · trivial
        · cases hz
      · cases h1
    · cases h1
  · -- slicing
    simp only [Bool.and_eq_true, Bool.or_eq_true] at hck
    obtain ⟨⟨⟨⟨⟨h1, h2⟩, h3⟩, h4⟩, h5⟩, h6⟩ := hck
    have v1 := hO h2
    simp only [aop, execOp]
    split
    · trivial
    · rename_i hst
      rename_i tt p lo hi mx st es b lo' hi' mx'
      have hst' : (b.ev x t).isStr = st := Classical.not_not.1 hst
      have htd : ∃ d, x.P.underlying tt = some d ∧ (d = .string ∨ ∃ e, d = .slice e ∧ tSize x.P e = some es) := by
        split at h1
        · rename_i hu; exact ⟨_, hu, .inl rfl⟩
        · rename_i e hu; simp only [Bool.and_eq_true, beq_iff_eq] at h1; exact ⟨_, hu, .inr ⟨e, rfl, h1.2⟩⟩
        · cases h1
      have hty : (∃ s, b.ev x t = .str s) → x.P.underlying tt = some .string := fun ⟨s, hs⟩ => by
        rw [hs] at hst'
        split at h1
        · assumption
        · rw [← hst'] at h1; simp [V.isStr] at h1
        · cases h1
      have hty' : (¬ ∃ s, b.ev x t = .str s) → ∃ e, x.P.underlying tt = some (.slice e) := fun hn => by
        have hf : st = false := by
          rw [← hst']
          cases hb : b.ev x t <;> first | rfl | exact absurd ⟨_, hb⟩ hn
        split at h1
        · rw [hf] at h1; cases h1
        · rename_i e hu; exact ⟨e, hu⟩
        · cases h1
      cases hl : bnd x t 0 lo' with
      | none => simp only [hl]; trivial
      | some l =>
        have hlb := bnd_spec (w := w) (P := x.P) hg ht h3 hl
        have hlo : ∀ d, Bd w x.P (lo.map a.eval) d l ∨ (lo.map a.eval = none ∧ l = 0) := fun d => by
          cases lo with
          | none => right; exact ⟨rfl, hlb⟩
          | some p => left; exact hlb
        cases hi' with
        | none =>
          cases hi with
          | some p => simp [ckOo] at h4
          | none =>
            cases mx with
            | some p => simp at h6
            | none =>
              cases mx' with
              | some o => simp [ckOo] at h5
              | none =>
                simp only [Option.map_none, hl]
                cases hv : slcV es (b.ev x t) l none none with
                | none => trivial
                | some v => exact slc_spec (x := x) (hi' := none) (mx' := none) H v1 hv htd hty hty' hlo (fun d => rfl) (fun d => rfl) ⟨fun _ => rfl, fun _ => rfl⟩ ⟨fun _ => rfl, fun _ => rfl⟩ (fun h => absurd rfl h)
        | some ho =>
          cases hi with
          | none => simp [ckOo] at h4
          | some p =>
            cases hh : bnd x t 0 (some ho) with
            | none => simp only [Option.map_some, hl, hh]; trivial
            | some u =>
              have hhb : ∀ d, Bd w x.P (some (a.eval p)) d u := fun d => bnd_spec (w := w) (P := x.P) (d := 0) hg ht h4 hh
              cases mx with
              | none =>
                cases mx' with
                | some o => simp [ckOo] at h5
                | none =>
                  simp only [Option.map_some, Option.map_none, hl, hh]
                  cases hv : slcV es (b.ev x t) l (some u) none with
                  | none => trivial
                  | some v => exact slc_spec (x := x) (hi' := some (a.eval p)) (mx' := none) H v1 hv htd hty hty' hlo hhb (fun d => rfl) ⟨fun _ => rfl, fun _ => rfl⟩ ⟨fun h => (by cases h), fun h => (by cases h)⟩ (fun h => absurd rfl h)
              | some pm =>
                cases mx' with
                | none => simp [ckOo] at h5
                | some om =>
                  cases hm : bnd x t 0 (some om) with
                  | none => simp only [Option.map_some, hl, hh, hm]; trivial
                  | some m =>
                    have hmb : ∀ d, Bd w x.P (some (a.eval pm)) d m := fun d => bnd_spec (w := w) (P := x.P) (d := 0) hg ht h5 hm
                    simp only [Option.map_some, hl, hh, hm]
                    cases hv : slcV es (b.ev x t) l (some u) (some m) with
                    | none => trivial
                    | some v => exact slc_spec (x := x) (hi' := some (a.eval p)) (mx' := some (a.eval pm)) H v1 hv htd hty hty' hlo hhb hmb ⟨fun h => (by cases h), fun h => (by cases h)⟩ ⟨fun h => (by cases h), fun h => (by cases h)⟩ (fun _ h => by cases h)
  · -- slicing an array
    simp only [Bool.and_eq_true, Bool.or_eq_true] at hck
    obtain ⟨⟨⟨⟨⟨h1, h2⟩, h3⟩, h4⟩, h5⟩, h6⟩ := hck
    have v1 := hO h2
    rename_i tt p lo hi mx n es ag b lo' hi' mx'
    split at h1
    · rename_i m e hu
      simp only [Bool.and_eq_true, beq_iff_eq, Bool.or_eq_true] at h1
      obtain ⟨⟨⟨rfl, hs⟩, hag⟩, hag1⟩ := h1
      simp only [aop, execOp]
      split
      · rename_i l u mm hl hh hm
        have hlb := bnd_spec (w := w) (P := x.P) hg ht h3 hl
        have hhb := bnd_spec (w := w) (P := x.P) hg ht h4 hh
        have hmb := bnd_spec (w := w) (P := x.P) hg ht h5 hm
        have hx1 : mx.map a.eval = none → mm = m := fun h => by cases mx with | none => exact hmb | some p => cases h
        have hy1 : mx.map a.eval ≠ none → hi.map a.eval ≠ none := fun h1 h2 => by
          cases mx with
          | none => exact h1 rfl
          | some p => cases hi with | none => simp at h6 | some q => cases h2
        have hag2 : ag = false → es = 1 := fun h => by subst h; simpa using hag1
        split
        · rename_i hc
          split
          · rename_i b' o hb
            rw [hb] at v1
            split
            · rename_i hsome
              exact does_slca H hu hs hag2 v1 hlb hhb hmb hc.1 hc.2.1 hc.2.2 hx1 hy1 (.inl ⟨b', o, rfl, hsome, rfl⟩)
            · trivial
          · rename_i cs o hb
            rw [hb] at v1
            cases hsub : sub cs o (m * es) with
            | none => trivial
            | some c => exact does_slca H hu hs hag2 v1 hlb hhb hmb hc.1 hc.2.1 hc.2.2 hx1 hy1 (.inr ⟨cs, o, c, rfl, hsub, rfl⟩)
          · trivial
        · trivial
      · trivial
    · cases h1
  · -- a field's address
    simp only [Bool.and_eq_true] at hck
    obtain ⟨h1, h2⟩ := hck
    have v1 := hO h2
    split at h1
    · rename_i fs hu
      split at h1
      · rename_i fd hf
        simp only [Bool.and_eq_true, beq_iff_eq] at h1
        obtain ⟨ho, hn⟩ := h1
        split at hn
        · rename_i n hs
          have hn0 : n ≠ 0 := by simpa using hn
          simp only [aop, execOp]
          split
          · rename_i b o hb
            rw [hb] at v1
            exact does_fad H hu hf ho hs hn0 v1 (.inl ⟨b, o, rfl, rfl⟩)
          · rename_i cs o hb
            rw [hb] at v1
            exact does_fad H hu hf ho hs hn0 v1 (.inr ⟨cs, o, rfl, rfl⟩)
          · trivial
        · cases hn
      · cases h1
    · cases h1
  · -- a field
    simp only [Bool.and_eq_true] at hck
    obtain ⟨h1, h2⟩ := hck
    have v1 := hO h2
    split at h1
    · rename_i fs hu
      split at h1
      · rename_i fd hf
        simp only [Bool.and_eq_true, beq_iff_eq] at h1
        obtain ⟨⟨ho, hs⟩, hag⟩ := h1
        simp only [aop, execOp]
        split
        · rename_i cs hb
          rw [hb] at v1
          cases hr : (sub cs _ _).bind (asV _) with
          | none => trivial
          | some v =>
            simp only [Option.bind_eq_some_iff] at hr
            obtain ⟨l, hl, hv⟩ := hr
            exact does_fld H hu hf ho hs hag v1 hl hv
        · trivial
      · cases h1
    · cases h1
  · -- an element's address
    rename_i tt p1 p2 es b1 b2
    simp only [Bool.and_eq_true] at hck
    obtain ⟨⟨h1, h2⟩, h3⟩ := hck
    have v1 := hO h2
    have v2 := hO h3
    split at h1
    · rename_i e hu
      have hs : tSize x.P e = some es := by simpa using h1
      simp only [aop, execOp]
      split
      · rename_i b off len cap ex es' ag k i hb hi
        rw [hb] at v1; rw [hi] at v2
        split
        · rename_i hc
          obtain ⟨rfl, c2, c3⟩ := hc
          generalize a.eval _ = u2 at v2 ⊢
          cases v2
          exact does_iad H hu hs v1 (.inl ⟨b, off, len, cap, ex, ag, rfl, c2, c3, rfl⟩)
        · trivial
      · rename_i ex xs k i hb hi
        rw [hb] at v1; rw [hi] at v2
        split
        · rename_i hc
          generalize a.eval _ = u2 at v2 ⊢
          cases v2
          exact does_iad H hu hs v1 (.inr ⟨ex, xs, rfl, hc.1, hc.2.1, hc.2.2, rfl⟩)
        · trivial
      · trivial
    · cases h1
  · -- an array element's address
    simp only [Bool.and_eq_true] at hck
    obtain ⟨⟨h1, h2⟩, h3⟩ := hck
    have v1 := hO h2
    have v2 := hO h3
    split at h1
    · rename_i m e hu
      simp only [Bool.and_eq_true, beq_iff_eq] at h1
      obtain ⟨rfl, hs⟩ := h1
      simp only [aop, execOp]
      split
      · rename_i b o k i hb hi
        rw [hb] at v1; rw [hi] at v2
        split
        · rename_i hc
          generalize a.eval _ = u2 at v2 ⊢
          cases v2
          exact does_iada H hu hs v1 hc (.inl ⟨b, o, rfl, rfl⟩)
        · trivial
      · rename_i cs o k i hb hi
        rw [hb] at v1; rw [hi] at v2
        split
        · rename_i hc
          generalize a.eval _ = u2 at v2 ⊢
          cases v2
          exact does_iada H hu hs v1 hc (.inr ⟨cs, o, rfl, rfl⟩)
        · trivial
      · trivial
    · cases h1
  · -- a string's byte
    simp only [Bool.and_eq_true] at hck
    obtain ⟨⟨h1, h2⟩, h3⟩ := hck
    have v1 := hO h2
    have v2 := hO h3
    split at h1
    · rename_i hu
      simp only [aop, execOp]
      split
      · rename_i s k i hb hi
        rw [hb] at v1; rw [hi] at v2
        split
        · rename_i hc
          generalize a.eval _ = u2 at v2 ⊢
          cases v2
          exact does_idxs H hu v1 hc
        · trivial
      · trivial
    · cases h1
  · -- an array's element
    simp only [Bool.and_eq_true] at hck
    obtain ⟨⟨h1, h2⟩, h3⟩ := hck
    have v1 := hO h2
    have v2 := hO h3
    split at h1
    · rename_i m e hu
      simp only [Bool.and_eq_true, beq_iff_eq] at h1
      obtain ⟨⟨rfl, hs⟩, hag⟩ := h1
      simp only [aop, execOp]
      split
      · rename_i cs k i hb hi
        rw [hb] at v1; rw [hi] at v2
        split
        · rename_i hc
          cases hr : (sub cs _ _).bind (asV _) with
          | none => trivial
          | some v =>
            simp only [Option.bind_eq_some_iff] at hr
            obtain ⟨l, hl, hv⟩ := hr
            generalize a.eval _ = u2 at v2 ⊢
            cases v2
            exact does_idxa H hu hs hag v1 hc hl hv
        · trivial
      · trivial
    · cases h1
  · -- a look-up
    rename_i tt p q ok k z b c ok'
    simp only [Bool.and_eq_true, beq_iff_eq] at hck
    obtain ⟨⟨⟨h1, h2⟩, h3⟩, rfl⟩ := hck
    have v1 := hO h2
    have v2 := hO h3
    split at h1
    · rename_i kt et hu
      simp only [Bool.and_eq_true] at h1
      obtain ⟨h4, h5⟩ := h1
      split at h4
      · rename_i td hk
        split at h5
        · rename_i zv hz
          simp only [aop, execOp]
          split
          · rename_i hb
            rw [hb] at v1
            generalize a.eval p = u1 at v1 ⊢
            cases v1
            exact does_look_nil H hu hk h4 hz h5
          · rename_i β hb
            rw [hb] at v1
            split
            · rename_i es hget
              cases hf : findM k (c.ev x t) es with
              | none => trivial
              | some r => exact does_look H hu hk h4 hz h5 v1 hget v2 hf
            · trivial
          · trivial
        · cases h5
      · cases h4
    · cases h1
  · -- a map's store
    rename_i tt p q r k b c d
    simp only [Bool.and_eq_true] at hck
    obtain ⟨⟨⟨h1, h2⟩, h3⟩, h4⟩ := hck
    have v1 := hO h2
    have v2 := hO h3
    have v3 := hO h4
    split at h1
    · rename_i kt et hu
      split at h1
      · rename_i td hk
        simp only [aop, execOp]
        split
        · rename_i β hb
          rw [hb] at v1
          split
          · rename_i es hget
            cases hp : putM k (c.ev x t) (d.ev x t) es with
            | none => trivial
            | some es' => exact does_upd H hu hk h1 v1 hget v2 v3 hp
          · trivial
        · trivial
      · cases h1
    · cases h1
  · -- a map literal's store
    rename_i tt p q r k b c d
    simp only [Bool.and_eq_true] at hck
    obtain ⟨⟨⟨h1, h2⟩, h3⟩, h4⟩ := hck
    have v1 := hO h2
    have v2 := hO h3
    have v3 := hO h4
    split at h1
    · rename_i kt et hu
      split at h1
      · rename_i td hk
        simp only [aop, execOp]
        split
        · rename_i β hb
          rw [hb] at v1
          split
          · rename_i es hget
            cases hp : putM k (c.ev x t) (d.ev x t) es with
            | none => trivial
            | some es' => exact does_upd H hu hk h1 v1 hget v2 v3 hp
          · trivial
        · trivial
      · cases h1
    · cases h1
  · -- a type assertion
    rename_i p xt tt ok t' z b ok'
    simp only [Bool.and_eq_true, beq_iff_eq] at hck
    obtain ⟨⟨⟨⟨rfl, rfl⟩, h1⟩, h2⟩, h3⟩ := hck
    have v1 := hO h3
    split at h1
    · cases h1
    · rename_i td hni hu
      split at h2
      · rename_i zv hz
        have hzv : VR E z zv := ckV_spec h2
        simp only [aop, execOp]
        split
        · rename_i ut v hb
          rw [hb] at v1
          generalize a.eval p = u1 at v1 ⊢
          cases v1 with
          | ifc _ _ vv hvv =>
            split
            · rename_i he
              subst he
              refine Does.same (u := if ok then .tuple #[vv, .bool true] else vv) H ?_ ?_
              · simp only [Instr.typeAssert, Sem.run_bind, run_underlying hu, Result.andThen_ok]
                cases td <;> first
                  | (exact absurd rfl (hni _))
                  | (simp; done)
              · cases ok with
                | false => exact hvv
                | true =>
                  refine .tup _ _ rfl (fun j y v hy hv => ?_)
                  match j, hy, hv with
                  | 0, hy, hv => simp at hy hv; subst hy; subst hv; exact hvv
                  | 1, hy, hv => simp at hy hv; subst hy; subst hv; exact .bool _
                  | j + 2, hy, hv => simp at hy
            · rename_i he
              split
              · rename_i hok
                subst hok
                refine Does.same (u := .tuple #[zv, .bool false]) H ?_ ?_
                · simp only [Instr.typeAssert, Sem.run_bind, run_underlying hu, Result.andThen_ok]
                  cases td <;> first
                    | (exact absurd rfl (hni _))
                    | (simp [he, run_zero hz]; done)
                · refine .tup _ _ rfl (fun j y v hy hv => ?_)
                  match j, hy, hv with
                  | 0, hy, hv => simp at hy hv; subst hy; subst hv; exact hzv
                  | 1, hy, hv => simp at hy hv; subst hy; subst hv; exact .bool _
                  | j + 2, hy, hv => simp at hy
              · trivial
        · rename_i hb
          rw [hb] at v1
          generalize a.eval p = u1 at v1 ⊢
          cases v1
          split
          · rename_i hok
            subst hok
            refine Does.same (u := .tuple #[zv, .bool false]) H ?_ ?_
            · simp only [Instr.typeAssert, Sem.run_bind, run_underlying hu, Result.andThen_ok]
              cases td <;> first
                | (exact absurd rfl (hni _))
                | (simp [run_zero hz]; done)
            · refine .tup _ _ rfl (fun j y v hy hv => ?_)
              match j, hy, hv with
              | 0, hy, hv => simp at hy hv; subst hy; subst hv; exact hzv
              | 1, hy, hv => simp at hy hv; subst hy; subst hv; exact .bool _
              | j + 2, hy, hv => simp at hy
          · trivial
        · trivial
      · cases h2
    · cases h1
  · -- a component
    rename_i p n b m
    simp only [Bool.and_eq_true, beq_iff_eq] at hck
    obtain ⟨rfl, h1⟩ := hck
    have v1 := hO h1
    simp only [aop, execOp]
    split
    · rename_i vs hb
      rw [hb] at v1
      cases hv : vs[n]? with
      | none => trivial
      | some v =>
        generalize a.eval p = u1 at v1 ⊢
        cases v1 with
        | tup _ us hl hh =>
          have hlt : n < us.size := by rw [hl]; exact (List.getElem?_eq_some_iff.1 hv).1
          have hu : us[n]? = some us[n] := Array.getElem?_eq_getElem hlt
          exact Does.same (u := us[n]) H (by simp [Instr.extract, hu]) (hh n v _ hv hu)
    · trivial
  · -- a call
    rename_i i c
    have hcargs : ∀ as, ckOs c.args.toList as = true → VRs E (evs x t as) (c.args.map a.eval) := fun as hc => by
      obtain ⟨l1, a1⟩ := ckOs_spec (x := x) hg ht hc
      exact ⟨by simpa using l1, fun j y v hy hv => a1 j y v hy (by simpa using hv)⟩
    split at hck
    · -- len
      rename_i q b hcal
      split at hck
      · rename_i p tt hargs htys
        simp only [Bool.and_eq_true, Bool.or_eq_true, beq_iff_eq] at hck
        obtain ⟨⟨h1, h2⟩, h3⟩ := hck
        have v1 := hO h1
        have e1 : c.args = #[p] := by rw [← Array.toArray_toList (xs := c.args), hargs]
        have e2 : c.argTypes = #[tt] := by rw [← Array.toArray_toList (xs := c.argTypes), htys]
        simp only [aop]
        refine Does.map H fun v hv => ?_
        have hq3 : q = .str ∨ q = .slc ∨ q = .map := by rcases h2 with (h2 | h2) | h2 <;> simp [h2]
        obtain ⟨n, hr, hvr⟩ := run_len (ty := ty) hq3 h3 H v1 hv
        refine ⟨n, ?_, hvr⟩
        simp only [execOp, resolve, hcal, Sem.run_bind, Sem.run_pure, Result.andThen_ok, invoke, builtin, e1, e2, List.map_toArray, List.map_cons, List.map_nil, hr]
      · cases hck
    · -- len of an array
      rename_i n hcal
      split at hck
      · rename_i tt p htys hargs
        split at hck
        · rename_i m e hu
          have hn : m = n := by simpa using hck
          subst hn
          have e1 : c.args = #[p] := by rw [← Array.toArray_toList (xs := c.args), hargs]
          have e2 : c.argTypes = #[tt] := by rw [← Array.toArray_toList (xs := c.argTypes), htys]
          refine Does.same (u := .int .i64 m) H ?_ (.int _ _)
          simp only [execOp, resolve, hcal, Sem.run_bind, Sem.run_pure, Result.andThen_ok, invoke, builtin, e1, e2, List.map_toArray, List.map_cons, List.map_nil]
          simp [Builtin.len_, run_underlying hu, goInt]
        · cases hck
      · cases hck
    · -- append
      rename_i es bt ag kt b d hcal
      split at hck
      · rename_i p q t1 t2 hargs htys
        simp only [Bool.and_eq_true] at hck
        obtain ⟨⟨h1, h2⟩, h3⟩ := hck
        have v1 := hO h1
        have v2 := hO h2
        obtain ⟨e, i, z, T, hkt⟩ := ckAppT_spec h3
        have e1 : c.args = #[p, q] := by rw [← Array.toArray_toList (xs := c.args), hargs]
        have e2 : c.argTypes = #[t1, t2] := by rw [← Array.toArray_toList (xs := c.argTypes), htys]
        have he : (execOp a.eval { dst, op := .call c, type := ty, pos, after, guard := gd }) = (do pure (.value (← Builtin.append_ #[t1, t2] ty #[a.eval p, a.eval q])) : Sem Next) := by
          simp only [execOp, resolve, hcal, e1, e2, List.map_toArray, List.map_cons, List.map_nil]
          rfl
        rw [he]
        simp only [aop]
        split
        · rename_i n ys hsrc
          cases hap : appV h es bt ag kt (b.ev x t) n ys with
          | none => trivial
          | some rz => exact does_app hkt T H v1 v2 hsrc hap
        · trivial
      · cases hck
    · -- copy
      rename_i es b d hcal
      split at hck
      · rename_i p q t1 t2 hargs htys
        simp only [Bool.and_eq_true] at hck
        obtain ⟨⟨h1, h2⟩, h3⟩ := hck
        have v1 := hO h1
        have v2 := hO h2
        split at h3
        · rename_i e hu
          have hs : tSize x.P e = some es := by simpa using h3
          have e1 : c.args = #[p, q] := by rw [← Array.toArray_toList (xs := c.args), hargs]
          have e2 : c.argTypes = #[t1, t2] := by rw [← Array.toArray_toList (xs := c.argTypes), htys]
          have he : (execOp a.eval { dst, op := .call c, type := ty, pos, after, guard := gd }) = (do pure (.value (← Builtin.copy_ #[t1, t2] ty #[a.eval p, a.eval q])) : Sem Next) := by
            simp only [execOp, resolve, hcal, e1, e2, List.map_toArray, List.map_cons, List.map_nil]
            rfl
          rw [he]
          simp only [aop]
          split
          · rename_i n ys hsrc
            split
            · rename_i hb
              rw [hb] at v1
              generalize a.eval p = u1 at v1 ⊢
              cases v1
              exact does_cpy_nil H hu hs v2 hsrc
            · rename_i b' off len cap ex es' ag hb
              rw [hb] at v1
              split
              · rename_i hes
                subst hes
                cases hw : wr h b' off _ with
                | none => trivial
                | some h' => exact does_cpy H hu hs v1 v2 hsrc hw
              · trivial
            · trivial
          · trivial
        · cases h3
      · cases hck
    · -- clear
      rename_i z b hcal
      split at hck
      · rename_i p t1 hargs htys
        simp only [Bool.and_eq_true] at hck
        obtain ⟨h1, h3⟩ := hck
        have v1 := hO h1
        split at h3
        · rename_i e hu
          split at h3
          · rename_i zv hz
            have e1 : c.args = #[p] := by rw [← Array.toArray_toList (xs := c.args), hargs]
            have e2 : c.argTypes = #[t1] := by rw [← Array.toArray_toList (xs := c.argTypes), htys]
            have he : (execOp a.eval { dst, op := .call c, type := ty, pos, after, guard := gd }) = (do pure (.value (← Builtin.clear_ #[t1] ty #[a.eval p])) : Sem Next) := by
              simp only [execOp, resolve, hcal, e1, e2, List.map_toArray, List.map_cons, List.map_nil]
              rfl
            rw [he]
            simp only [aop]
            split
            · rename_i hb
              rw [hb] at v1
              exact does_clr0 H hu v1 (.inl rfl)
            · rename_i b' off len cap ex es ag hb
              rw [hb] at v1
              split
              · split
                · rename_i hlen
                  subst hlen
                  exact does_clr0 H hu v1 (.inr ⟨b', off, cap, ex, es, ag, rfl⟩)
                · rename_i hlen
                  cases hw : wr h b' off _ with
                  | none => trivial
                  | some h' => exact does_clr H hu hz h3 v1 hlen hw
              · trivial
            · trivial
          · cases h3
        · cases h3
      · cases hck
    · -- max
      rename_i b d hcal
      split at hck
      · rename_i p q hargs
        simp only [Bool.and_eq_true] at hck
        obtain ⟨h1, h2⟩ := hck
        have v1 := hO h1
        have v2 := hO h2
        have e1 : c.args = #[p, q] := by rw [← Array.toArray_toList (xs := c.args), hargs]
        simp only [aop]
        split
        · rename_i k m k' n hb hd
          rw [hb] at v1; rw [hd] at v2
          split
          · have u1 : a.eval p = .int k m := by generalize a.eval p = u at v1; cases v1; rfl
            have u2 : a.eval q = .int k' n := by generalize a.eval q = u at v2; cases v2; rfl
            refine Does.same H ?_ (.int _ _)
            simp only [execOp, resolve, hcal, Sem.run_bind, Sem.run_pure, Result.andThen_ok, invoke, builtin, e1, List.map_toArray, List.map_cons, List.map_nil, u1, u2, max_run]
          · trivial
        · trivial
      · cases hck
    · -- min
      rename_i b d hcal
      split at hck
      · rename_i p q hargs
        simp only [Bool.and_eq_true] at hck
        obtain ⟨h1, h2⟩ := hck
        have v1 := hO h1
        have v2 := hO h2
        have e1 : c.args = #[p, q] := by rw [← Array.toArray_toList (xs := c.args), hargs]
        simp only [aop]
        split
        · rename_i k m k' n hb hd
          rw [hb] at v1; rw [hd] at v2
          split
          · have u1 : a.eval p = .int k m := by generalize a.eval p = u at v1; cases v1; rfl
            have u2 : a.eval q = .int k' n := by generalize a.eval q = u at v2; cases v2; rfl
            refine Does.same H ?_ (.int _ _)
            simp only [execOp, resolve, hcal, Sem.run_bind, Sem.run_pure, Result.andThen_ok, invoke, builtin, e1, List.map_toArray, List.map_cons, List.map_nil, u1, u2, min_run]
          · trivial
        · trivial
      · cases hck
    · -- SliceData
      rename_i b hcal
      split at hck
      · rename_i p hargs
        have v1 := hO hck
        have e1 : c.args = #[p] := by rw [← Array.toArray_toList (xs := c.args), hargs]
        have he : (execOp a.eval { dst, op := .call c, type := ty, pos, after, guard := gd }) = (do pure (.value (← Builtin.unsafeSliceData_ c.argTypes ty #[a.eval p])) : Sem Next) := by
          simp only [execOp, resolve, hcal, e1, List.map_toArray, List.map_cons, List.map_nil]
          rfl
        rw [he]
        simp only [aop]
        split
        · rename_i hb
          exact does_sld H v1 (.inl ⟨hb, rfl⟩)
        · rename_i hb
          split
          · rename_i hpos
            exact does_sld H v1 (.inr ⟨_, _, _, _, _, _, _, hb, hpos, rfl⟩)
          · trivial
        · trivial
      · cases hck
    · -- unsafe.String
      rename_i kt b d hcal
      split at hck
      · rename_i p q pt it hargs htys
        simp only [Bool.and_eq_true] at hck
        obtain ⟨⟨h1, h2⟩, h3⟩ := hck
        have v1 := hO h1
        have v2 := hO h2
        split at h3
        · rename_i e hu
          simp only [Bool.and_eq_true, beq_iff_eq] at h3
          obtain ⟨rfl, hcell⟩ := h3
          have e1 : c.args = #[p, q] := by rw [← Array.toArray_toList (xs := c.args), hargs]
          have e2 : c.argTypes = #[pt, it] := by rw [← Array.toArray_toList (xs := c.argTypes), htys]
          have he : (execOp a.eval { dst, op := .call c, type := ty, pos, after, guard := gd }) = (do pure (.value (← Builtin.unsafeString_ #[pt, it] ty #[a.eval p, a.eval q])) : Sem Next) := by
            simp only [execOp, resolve, hcal, e1, e2, List.map_toArray, List.map_cons, List.map_nil]
            rfl
          rw [he]
          have hq : ∀ n, d.ev x t = .int .i64 n → a.eval q = .int .i64 n := fun n hn => by
            rw [hn] at v2
            generalize a.eval q = u2 at v2
            cases v2; rfl
          simp only [aop]
          split
          · rename_i n hb hd
            split
            · rename_i hn
              subst hn
              rw [hq _ hd]
              exact does_ustr_nil H v1 (.inl hb)
            · trivial
          · rename_i b' o n hb hd
            rw [hq _ hd]
            split
            · rename_i hn
              subst hn
              exact does_ustr_nil H v1 (.inr ⟨_, _, hb⟩)
            · rename_i hn
              split
              · rename_i cs kt' hg
                split
                · rename_i hc
                  obtain ⟨rfl, rfl, h0, hmax⟩ := hc
                  split
                  · rename_i l hs
                    split
                    · rename_i hby
                      rw [hb] at v1
                      exact does_ustr H hu hcell v1 hg h0 hn hmax hs hby
                    · trivial
                  · trivial
                · trivial
              · trivial
          · trivial
        · cases h3
      · cases hck
    · -- internal/abi.NoEscape
      rename_i f b hcal
      simp only [Bool.and_eq_true] at hck
      obtain ⟨h1, h2⟩ := hck
      split at h1
      · rename_i fn hf
        simp only [Bool.and_eq_true, beq_iff_eq] at h1
        obtain ⟨⟨hn, ho⟩, hbn⟩ := h1
        split at h2
        · rename_i p hargs
          have v1 := hO h2
          have e1 : c.args = #[p] := by rw [← Array.toArray_toList (xs := c.args), hargs]
          have he : (execOp a.eval { dst, op := .call c, type := ty, pos, after, guard := gd }) = callFunc f #[a.eval p] := by
            simp only [execOp, resolve, hcal, e1, List.map_toArray, List.map_cons, List.map_nil]
            rfl
          rw [he]
          exact does_noEsc H hf hn ho hbn v1
        · cases h2
      · cases h1
    · -- a function's call
      rename_i p b as hcal
      simp only [Bool.and_eq_true] at hck
      have v1 := hO hck.1
      have va := hcargs as hck.2
      simp only [aop]
      cases hcv : callV (b.ev x t) (evs x t as) with
      | none => trivial
      | some fl =>
        obtain ⟨f, l⟩ := fl
        obtain ⟨cap, as', hr, hvr⟩ := callV_spec (x := x) (w := w) v1 va hcv
        intro hca
        refine ⟨as' ++ cap, ?_, hvr⟩
        simp only [execOp, resolve, hcal, Sem.run_bind, hr, Result.andThen_ok, invoke, callFunc_run hca]
    · -- a method's call
      rename_i r m b m' as hcal
      simp only [Bool.and_eq_true, beq_iff_eq] at hck
      obtain ⟨⟨rfl, h1⟩, h2⟩ := hck
      have v1 := hO h1
      have va := hcargs as h2
      simp only [aop]
      split
      · rename_i tt v hb
        rw [hb] at v1
        have main : ∀ (f : FuncId) (p : Option Nat) (rv : V), x.M tt m = some (f, p) → ((p = none ∧ rv = v) ∨ ∃ off cs, p = some off ∧ v = .agg cs ∧ cs[off]? = some rv) →
            Does x w0 E w ((execOp a.eval { dst, op := .call c, type := ty, pos, after, guard := gd }).run x.P w) (some (.call f (rv :: evs x t as))) := fun f p rv hm hrv hca => by
          have hckm := hx tt m f p hm
          generalize hru : a.eval r = u1 at v1
          cases v1 with
          | ifc _ _ uu hvv =>
            have hdp : 0 < Made.depth := by decide
            obtain ⟨n, hn⟩ : ∃ n, x.P.types.size + Made.depth = n + 1 := ⟨x.P.types.size + Made.depth - 1, by omega⟩
            obtain ⟨ru, hr, hvr⟩ := method_run (P := x.P) (w := w) hckm n hvv hrv
            refine ⟨#[ru] ++ c.args.map a.eval, ?_, ?_⟩
            · simp only [execOp, resolve, hcal, Sem.run_bind, Sem.run_pure, Result.andThen_ok, invoke, hru]
              have h0 : (#[Value.iface tt uu] ++ Array.map a.eval c.args)[0]? = some (.iface tt uu) := by rw [Array.getElem?_append_left (by simp)]; rfl
              have h1' : (#[Value.iface tt uu] ++ Array.map a.eval c.args).extract 1 (#[Value.iface tt uu] ++ Array.map a.eval c.args).size = Array.map a.eval c.args := by
                apply Array.ext'
                simp [Array.toList_extract, List.extract]
                exact List.take_of_length_le (by simp)
              simp only [h0, h1', callMethod, Sem.run_bind, run_program, Result.andThen_ok, hn, hr, callFunc_run hca]
            · have : VRs E [rv] #[ru] := ⟨rfl, fun j y v hy hv => by
                cases j with
                | zero => simp at hy hv; subst hy; subst hv; exact hvr
                | succ j => simp at hy⟩
              exact VRs.append this va
        split
        · rename_i f hm
          exact main f none v hm (.inl ⟨rfl, rfl⟩)
        · rename_i f off hm
          split
          · rename_i cs
            cases hcs : cs[off]? with
            | none => trivial
            | some rv => exact main f (some off) rv hm (.inr ⟨off, cs, rfl, rfl, hcs⟩)
          · trivial
        · trivial
      · trivial
    · cases hck
  · -- a deferred call
    rename_i c b as
    split at hck
    · rename_i p hcal
      simp only [Bool.and_eq_true] at hck
      have v1 := hO hck.1
      obtain ⟨l1, a1⟩ := ckOs_spec (x := x) hg ht hck.2
      have va : VRs E (evs x t as) (c.args.map a.eval) := ⟨by simpa using l1, fun j y v hy hv => a1 j y v hy (by simpa using hv)⟩
      simp only [aop]
      cases hcv : callV (b.ev x t) (evs x t as) with
      | none => trivial
      | some fl =>
        obtain ⟨f, l⟩ := fl
        obtain ⟨cap, as', hr, hvr⟩ := callV_spec (x := x) (w := w) v1 va hcv
        exact ⟨_, cap, by simp only [execOp, resolve, hcal, Sem.run_bind, hr, Result.andThen_ok]; rfl, rfl, hvr⟩
    · cases hck
  · -- a panic
    rename_i p b
    have v1 := hO hck
    simp only [aop]
    split
    · rename_i tt v hb
      rw [hb] at v1
      generalize hru : a.eval p = u1 at v1
      cases v1 with
      | ifc _ _ uu hvv => exact ⟨_, by simp [execOp, Instr.panic, hru], .ifc _ _ _ hvv⟩
    · trivial
  · cases hck
end
end Go.Vs
