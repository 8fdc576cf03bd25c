/- Each instruction, as the machine runs it (4): comparisons whole, conversions, addresses, parts. -/
import Derived.Test.YtpefpiccljohlaaZvEq
namespace Go.Vs
open Go.RowKit

section
variable {w0 w : World} {E : Env} {h : Hp} {x : X}

theorem VR.shown {t : TypeId} {a : V} {u : Value} {P : Program} {xs : List V} (ha : VR E a u) (hs : a = .agg xs) (hag : tAg P t = some true) : Shown P t u := by
  subst hs
  cases ha
  exact ⟨fun _ => ⟨_, rfl⟩, fun h => by rw [hag] at h; cases h⟩

theorem VR.agg_vals {xs : List V} {u : Value} (ha : VR E (.agg xs) u) : Vals E xs u.cells.toList := by
  cases ha with
  | agg cs vs hl h h1 =>
    refine ⟨by simpa [Value.cells] using hl, fun j u hu => ?_⟩
    have hu' : vs[j]? = some u := by simpa [Value.cells] using hu
    exact ⟨h1 j u hu', fun x hx => h j x u hx hu'⟩

/-- The check at a comparison. -/
def ckBin (P : Program) (op : BinOp) (t : TypeId) (q : Q) (x y : O) : Bool := match q with
  | .num => true
  | .str => true
  | .agg ks => (op == .eql || op == .neq) && eqSz P 20 t == some ks && tAg P t == some true && P.eqGuardType P.depth t == false
  | .ifc => (op == .eql || op == .neq) && ckQ P t .ifc && (!x.isTmp || !y.isTmp)
  | q => (op == .eql || op == .neq) && ckQ P t q

theorem eqGuard_other {P : Program} {w : World} {op : BinOp} {t : TypeId} {x y : Operand} {a b : Value} (hn : ∀ xs ys, ¬ (a = .agg xs ∧ b = .agg ys)) (hi : a = .nilIface → b = .nilIface → (∃ v, x = .const v) ∨ ∃ v, y = .const v) :
    (eqGuard op t x y a b).run P w = .ok () w := by
  cases op <;> first
    | rfl
    | (simp only [eqGuard, Bool.not_true, Bool.false_eq_true, if_false]
       split
       · rcases hi rfl rfl with ⟨v, rfl⟩ | ⟨v, rfl⟩ <;> simp
       · rename_i xs ys; exact absurd ⟨rfl, rfl⟩ (hn xs ys)
       · rfl)

theorem ckO_nifc {p : Operand} {o : O} {t : Nat → V} (h : ckO p o = true) (ht : o.isTmp = false) (he : o.ev x t = .nifc) : ∃ v, p = .const v := by
  cases o with
  | t n => cases ht
  | k v =>
    simp only [O.ev] at he
    subst he
    cases p <;> simp [ckO] at h
    exact ⟨_, rfl⟩
  | g n => cases he

theorem VR.of_agg {a : V} {us : Array Value} (ha : VR E a (.agg us)) : ∃ xs, a = .agg xs := by cases ha; exact ⟨_, rfl⟩
theorem VR.of_nifc {a : V} (ha : VR E a .nilIface) : a = .nifc := by cases ha; rfl

theorem veq_shape {q : Q} {a b : V} {r : Bool} (h : veq q a b = some r) (hq : ∀ ks, q ≠ .agg ks) {ua ub : Value} (ha : VR E a ua) (hb : VR E b ub) :
    (∀ xs ys, ¬ (ua = .agg xs ∧ ub = .agg ys)) ∧ (ua = .nilIface → ub = .nilIface → q = .ifc) := by
  refine ⟨fun xs ys ⟨h1, h2⟩ => ?_, fun h1 h2 => ?_⟩
  · subst h1; subst h2
    obtain ⟨l, rfl⟩ := ha.of_agg
    obtain ⟨m, rfl⟩ := hb.of_agg
    cases q <;> simp [veq] at h
    exact hq _ rfl
  · subst h1; subst h2
    rw [ha.of_nifc, hb.of_nifc] at h
    cases q <;> simp [veq] at h
    rfl

/-- What is compared by 'Op.equal', by kinds. -/
theorem binOp_eql {q : Q} {a b : V} {r : Bool} (h : veq q a b = some r) (h1 : q ≠ .num) (h2 : q ≠ .str) (h3 : ∀ ks, q ≠ .agg ks) {t : TypeId} {ua ub : Value} (ha : VR E a ua) (hb : VR E b ub) :
    binOp .eql t ua ub = (do pure (.bool (← Op.equal t ua ub))) ∧ binOp .neq t ua ub = (do pure (.bool (!(← Op.equal t ua ub)))) := by
  cases q
  case num => exact absurd rfl h1
  case str => exact absurd rfl h2
  case agg ks => exact absurd rfl (h3 ks)
  all_goals
    cases ha <;> first
      | (simp [veq] at h; done)
      | (cases hb <;> first
          | (simp [veq] at h; done)
          | exact ⟨rfl, rfl⟩)

theorem veqs_len : ∀ {ks : List Q1} {xs ys : List V} {r : Bool}, veqs ks xs ys = some r → xs.length = ks.length ∧ ys.length = ks.length
  | [], [], [], _, _ => ⟨rfl, rfl⟩
  | k :: ks, x :: xs, y :: ys, r, h => by
    simp only [veqs] at h
    split at h
    · rename_i h2
      have := veqs_len h2
      simp [this.1, this.2]
    · cases h
  | [], _ :: _, _, _, h => by simp [veqs] at h
  | [], [], _ :: _, _, h => by simp [veqs] at h
  | _ :: _, [], _, _, h => by simp [veqs] at h
  | _ :: _, _ :: _, [], _, h => by simp [veqs] at h

theorem does_bin {op : BinOp} {t : TypeId} {q : Q} {p1 p2 : Operand} {o1 o2 : O} {tt : Nat → V} {ua ub : Value} {v : V} (H : SR w0 E h w) (ho1 : ckO p1 o1 = true) (ho2 : ckO p2 o2 = true) (hck : ckBin x.P op t q o1 o2 = true)
    (ha : VR E (o1.ev x tt) ua) (hb : VR E (o2.ev x tt) ub) (hv : binV op q (o1.ev x tt) (o2.ev x tt) = some v) :
    Does x w0 E w ((do pure (.value (← (do eqGuard op t p1 p2 ua ub; binOp op t ua ub))) : Sem Next).run x.P w) (some (.val v h)) := by
  have key : (eqGuard op t p1 p2 ua ub).run x.P w = .ok () w ∧ ∃ u, (binOp op t ua ub).run x.P w = .ok u w ∧ VR E v u := by
    generalize haa : o1.ev x tt = a at *
    generalize hbb : o2.ev x tt = b at *
    have other : ∀ q', q = q' → (∀ ks, q' ≠ .agg ks) → q' ≠ .num → q' ≠ .str → ckQ x.P t q' = true → (op = .eql ∨ op = .neq) → ((ua = .nilIface → ub = .nilIface → (∃ v, p1 = .const v) ∨ ∃ v, p2 = .const v)) →
        (eqGuard op t p1 p2 ua ub).run x.P w = .ok () w ∧ ∃ u, (binOp op t ua ub).run x.P w = .ok u w ∧ VR E v u := by
      intro q' hq hna hnn hns hc hop hi
      subst hq
      have hb' : ∃ r, veq q a b = some r ∧ ((op = .eql ∧ v = .bool r) ∨ (op = .neq ∧ v = .bool !r)) := by
        unfold binV at hv
        split at hv
        · exact absurd rfl hnn
        · exact absurd rfl hns
        · rcases hop with rfl | rfl
          · simp only [Option.map_eq_some_iff] at hv
            obtain ⟨r, h1, h2⟩ := hv
            exact ⟨r, h1, .inl ⟨rfl, h2.symm⟩⟩
          · simp only [Option.map_eq_some_iff] at hv
            obtain ⟨r, h1, h2⟩ := hv
            exact ⟨r, h1, .inr ⟨rfl, h2.symm⟩⟩
      obtain ⟨r, hr, hv'⟩ := hb'
      have hsh := veq_shape hr hna ha hb
      refine ⟨eqGuard_other hsh.1 hi, ?_⟩
      have he := run_equal1 (w := w) hc ha hb hr
      obtain ⟨b1, b2⟩ := binOp_eql (t := t) hr hnn hns hna ha hb
      rcases hv' with ⟨rfl, rfl⟩ | ⟨rfl, rfl⟩
      · exact ⟨.bool r, by rw [b1]; simp [he], .bool r⟩
      · exact ⟨.bool !r, by rw [b2]; simp [he], .bool _⟩
    cases q with
    | num =>
      have hv' := hv
      simp only [binV] at hv
      split at hv
      · cases ha; cases hb
        obtain ⟨u, h1, h2⟩ := run_int (P := x.P) (t := t) (w := w) hv'
        exact ⟨eqGuard_other (fun _ _ h => by cases h.1) (fun h => by cases h), u, h1, h2 E⟩
      · cases hv
    | str =>
      simp only [binV] at hv
      split at hv
      · cases ha; cases hb
        obtain ⟨u, h1, h2⟩ := run_str (P := x.P) (t := t) (w := w) hv
        exact ⟨eqGuard_other (fun _ _ h => by cases h.1) (fun h => by cases h), u, h1, h2 E⟩
      · cases hv
    | agg ks =>
      simp only [ckBin, Bool.and_eq_true, Bool.or_eq_true, beq_iff_eq] at hck
      obtain ⟨⟨⟨hop, hsz⟩, hag⟩, hg⟩ := hck
      have hb' : ∃ r, veq (.agg ks) a b = some r ∧ ((op = .eql ∧ v = .bool r) ∨ (op = .neq ∧ v = .bool !r)) := by
        simp only [binV] at hv
        rcases hop with rfl | rfl
        · simp only [Option.map_eq_some_iff] at hv
          obtain ⟨r, h1, h2⟩ := hv
          exact ⟨r, h1, .inl ⟨rfl, h2.symm⟩⟩
        · simp only [Option.map_eq_some_iff] at hv
          obtain ⟨r, h1, h2⟩ := hv
          exact ⟨r, h1, .inr ⟨rfl, h2.symm⟩⟩
      obtain ⟨r, hr, hv'⟩ := hb'
      obtain ⟨xs, ys, rfl, rfl, hr⟩ : ∃ xs ys, a = .agg xs ∧ b = .agg ys ∧ veqs ks xs ys = some r := by
        cases a <;> (try (simp [veq] at hr; done))
        cases b <;> (try (simp [veq] at hr; done))
        exact ⟨_, _, rfl, rfl, by simpa [veq] using hr⟩
      have va := ha.agg_vals
      have vb := hb.agg_vals
      have sa := ha.shown rfl hag
      have sb := hb.shown rfl hag
      have hlen := veqs_len hr
      have he := (eq_spec w 20 t ks hsz).2 10000 (by omega) ua ub xs ys r sa sb va vb hlen.1 hlen.2 hr
      obtain ⟨us, rfl⟩ := sa.1 hag
      obtain ⟨ts, rfl⟩ := sb.1 hag
      refine ⟨run_eqGuard_agg w op t p1 p2 us ts hg, ?_⟩
      rcases hv' with ⟨rfl, rfl⟩ | ⟨rfl, rfl⟩
      · exact ⟨.bool r, by rw [run_eql_struct, he]; rfl, .bool r⟩
      · exact ⟨.bool !r, by rw [run_neq_struct, he]; rfl, .bool _⟩
    | ifc =>
      simp only [ckBin, Bool.and_eq_true, Bool.or_eq_true, beq_iff_eq, Bool.not_eq_true'] at hck
      obtain ⟨⟨hop, hc⟩, ht⟩ := hck
      refine other .ifc rfl (fun _ => by simp) (by simp) (by simp) hc hop (fun h1 h2 => ?_)
      subst h1; subst h2
      have ea : a = .nifc := by cases ha; rfl
      have eb : b = .nifc := by cases hb; rfl
      rcases ht with ht | ht
      · exact .inl (ckO_nifc (x := x) (t := tt) ho1 ht (haa.trans ea))
      · exact .inr (ckO_nifc (x := x) (t := tt) ho2 ht (hbb.trans eb))
    | _ =>
      simp only [ckBin, Bool.and_eq_true, Bool.or_eq_true, beq_iff_eq] at hck
      refine other _ rfl (fun _ => by simp) (by simp) (by simp) hck.2 hck.1 (fun h1 h2 => ?_)
      exfalso
      subst h1; subst h2
      cases ha; cases hb
      rcases hck.1 with rfl | rfl <;> simp [binV, veq] at hv
  obtain ⟨hg, u, hr, hu⟩ := key
  exact Does.same H (by simp [hg, hr]) hu
end
end Go.Vs
