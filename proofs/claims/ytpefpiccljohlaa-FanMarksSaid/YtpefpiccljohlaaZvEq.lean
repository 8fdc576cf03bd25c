/- '==' of structs and arrays, cell by cell. -/
import Derived.Test.YtpefpiccljohlaaZvRun3
namespace Go.Vs
open Go.RowKit

def eqFs (P : Program) (g : TypeId → Option (List Q1)) : List Field → Nat → Option (List Q1)
  | [], _ => some []
  | f :: r, off => if f.name ≠ "_" ∧ f.offset = off then match g f.type with
    | some ks => (eqFs P g r (off + ks.length)).map (ks ++ ·)
    | none => none
    else none

def q1Of : TypeDesc → Option Q1
  | .bool => some .bool
  | .int _ => some .num
  | .string => some .str
  | _ => none

/-- The kinds of a type's cells, where its '==' is that of its cells. -/
def eqSz (P : Program) : Nat → TypeId → Option (List Q1)
  | 0, _ => none
  | k + 1, t => match P.underlying t with
    | some (.struct fs) => if P.stoodInHeld t = true then none else match eqFs P (eqSz P k) fs.toList 0 with
      | some ks => if tSize P t = some ks.length then some ks else none
      | none => none
    | some (.array m e) => match eqSz P k e with
      | some ks => if tSize P t = some (m * ks.length) then some (List.replicate m ks).flatten else none
      | none => none
    | some d => match q1Of d with
      | some q => if tSize P t = some 1 then some [q] else none
      | none => none
    | none => none

theorem eqSz_size {P : Program} {k : Nat} {t : TypeId} {ks : List Q1} (h : eqSz P k t = some ks) : tSize P t = some ks.length := by
  cases k with
  | zero => cases h
  | succ k =>
    simp only [eqSz] at h
    split at h
    · split at h
      · cases h
      · split at h
        · split at h
          · cases h; assumption
          · cases h
        · cases h
    · split at h
      · split at h
        · rename_i hs; cases h; rw [hs]; simp
        · cases h
      · cases h
    · split at h
      · split at h
        · rename_i hs; cases h; rw [hs]; rfl
        · cases h
      · cases h
    · cases h

/-- A value as a cell row shows it. -/
def Shown (P : Program) (t : TypeId) (v : Value) : Prop := (tAg P t = some true → ∃ cs, v = .agg cs) ∧ (tAg P t = some false → v.cells = #[v])

theorem veqs_append : ∀ {ks js : List Q1} {a b c d : List V} {r : Bool}, ks.length = a.length → a.length = c.length → veqs (ks ++ js) (a ++ b) (c ++ d) = some r →
    ∃ p q, veqs ks a c = some p ∧ veqs js b d = some q ∧ r = (p && q)
  | [], _, [], b, [], d, r, _, _, h => ⟨true, r, rfl, h, by simp⟩
  | k :: ks, js, x :: a, b, y :: c, d, r, hk, hl, h => by
    simp only [List.cons_append, veqs] at h
    split at h
    · rename_i p q h1 h2
      cases h
      obtain ⟨p', q', e1, e2, e3⟩ := veqs_append (by simpa using hk) (by simpa using hl) h2
      exact ⟨p && p', q', by simp [veqs, h1, e1], e2, by rw [e3, Bool.and_assoc]⟩
    · cases h
  | [], _, _ :: _, _, _, _, _, hk, _, _ => by simp at hk
  | _ :: _, _, [], _, _, _, _, hk, _, _ => by simp at hk
  | _, _, [], _, _ :: _, _, _, _, hl, _ => by simp at hl
  | _, _, _ :: _, _, [], _, _, _, hl, _ => by simp at hl

theorem Vals.slice {E : Env} {l : List V} {vs : List Value} (hv : Vals E l vs) (o n : Nat) : Vals E ((l.drop o).take n) ((vs.drop o).take n) := by
  refine ⟨by simp [hv.1], fun j u hu => ?_⟩
  have hj : j < n := by
    rcases Nat.lt_or_ge j n with h | h
    · exact h
    · rw [List.getElem?_eq_none (by simp; omega)] at hu; cases hu
  rw [List.getElem?_take_of_lt hj, List.getElem?_drop] at hu
  refine ⟨(hv.2 _ u hu).1, fun x hx => (hv.2 _ u hu).2 x ?_⟩
  rwa [List.getElem?_take_of_lt hj, List.getElem?_drop] at hx

def isAg : TypeDesc → Bool
  | .struct _ => true
  | .array _ _ => true
  | _ => false
theorem tAg_of {P : Program} {t : TypeId} {d : TypeDesc} (h : P.underlying t = some d) : tAg P t = some (isAg d) := by
  simp only [tAg, h, Option.map_some]; cases d <;> rfl

/-- A part of a row. -/
theorem run_part {P : Program} {t : TypeId} {n off : Nat} {xs : Array Value} {l : List V} {E : Env} (w : World) (hs : tSize P t = some n) (hag : ∃ b, tAg P t = some b ∧ (b = false → n = 1)) (hx : Vals E l xs.toList)
    (hle : off + n ≤ l.length) : ∃ v, (part t xs off).run P w = .ok v w ∧ Shown P t v ∧ v.cells.toList = (xs.toList.drop off).take n := by
  obtain ⟨b, hb, hn⟩ := hag
  have hsz : xs.size = l.length := by simpa using hx.1
  cases b with
  | true =>
    refine ⟨.agg (xs.extract off (off + n)), ?_, ⟨fun _ => ⟨_, rfl⟩, fun h => ?_⟩, ?_⟩
    · simp [part, run_isAgg hb, run_size hs]
    · rw [hb] at h; cases h
    · simp [Value.cells, Array.toList_extract, List.extract]
  | false =>
    have h1 := hn rfl
    subst h1
    have hlt : off < xs.size := by omega
    have ho := hx.2 off xs[off] (by simp [hlt])
    have hc : xs[off].cells = #[xs[off]] := by
      have := ho.1
      generalize xs[off] = u at this
      cases u <;> first | rfl | simp [Value.oneCell'] at this
    refine ⟨xs[off], ?_, ⟨fun h => ?_, fun _ => hc⟩, ?_⟩
    · simp [part, run_isAgg hb, hlt]
    · rw [hb] at h; cases h
    · rw [hc]
      refine List.ext_getElem? fun j => ?_
      cases j with
      | zero => simp [List.getElem?_take_of_lt, hlt]
      | succ j => rw [List.getElem?_eq_none (by simp), List.getElem?_eq_none (by simp; omega)]

/-- What 'eqSz' promises at one type. -/
def EqOk (P : Program) (E : Env) (w : World) (k : Nat) (t : TypeId) (ks : List Q1) : Prop :=
  (∃ b, tAg P t = some b ∧ (b = false → ks.length = 1)) ∧ ∀ (d : Nat), k ≤ d → ∀ (a b : Value) (l m : List V) (r : Bool),
    Shown P t a → Shown P t b → Vals E l a.cells.toList → Vals E m b.cells.toList → l.length = ks.length → m.length = ks.length → veqs ks l m = some r → (Op.equalIn d t a b).run P w = .ok r w

theorem eqFs_spec {P : Program} {E : Env} {w : World} {k : Nat} (ih : ∀ t ks, eqSz P k t = some ks → EqOk P E w k t ks) {d : Nat} (hd : k ≤ d) : ∀ (fs : List Field) (off : Nat) (ks : List Q1), eqFs P (eqSz P k) fs off = some ks →
    ∀ (xs ys : Array Value) (l m : List V) (r : Bool), Vals E l xs.toList → Vals E m ys.toList → l.length = off + ks.length → m.length = off + ks.length → veqs ks (l.drop off) (m.drop off) = some r →
    (Op.eqFields d xs ys fs).run P w = .ok r w := by
  intro fs
  induction fs with
  | nil =>
    intro off ks hk xs ys l m r hx hy hl hm hv
    simp only [eqFs] at hk
    cases hk
    rw [List.drop_of_length_le (by simp at hl; omega), List.drop_of_length_le (by simp at hm; omega)] at hv
    cases hv
    rfl
  | cons f fs ihf =>
    intro off ks hk xs ys l m r hx hy hl hm hv
    simp only [eqFs] at hk
    split at hk
    · rename_i hn
      split at hk
      · rename_i js hj
        cases hr : eqFs P (eqSz P k) fs (off + js.length) with
        | none => rw [hr] at hk; cases hk
        | some rs =>
          rw [hr] at hk
          simp only [Option.map_some, Option.some.injEq] at hk
          subst hk
          rw [List.length_append] at hl hm
          obtain ⟨hag, hq⟩ := ih _ _ hj
          obtain ⟨a, ra, sa, ca⟩ := run_part (off := f.offset) w (eqSz_size hj) hag hx (by rw [hn.2]; omega)
          obtain ⟨b, rb, sb, cb⟩ := run_part (off := f.offset) w (eqSz_size hj) hag hy (by rw [hn.2]; omega)
          rw [hn.2] at ca cb
          have el : l.drop off = (l.drop off).take js.length ++ l.drop (off + js.length) := by rw [← List.drop_drop, List.take_append_drop]
          have em : m.drop off = (m.drop off).take js.length ++ m.drop (off + js.length) := by rw [← List.drop_drop, List.take_append_drop]
          rw [el, em] at hv
          obtain ⟨p, q, e1, e2, e3⟩ := veqs_append (by simp; omega) (by simp; omega) hv
          have h1 := hq d hd a b _ _ p sa sb (by rw [ca]; exact hx.slice _ _) (by rw [cb]; exact hy.slice _ _) (by simp; omega) (by simp; omega) e1
          have h2 := ihf (off + js.length) rs hr xs ys l m q hx hy (by omega) (by omega) e2
          rw [Op.eqFields, if_pos hn.1]
          simp only [Sem.run_bind, ra, rb, h1, Result.andThen_ok, Sem.run_ite]
          cases p with
          | false => simp [e3]
          | true => simp [h2, e3]
      · cases hk
    · cases hk

theorem eq_spec {P : Program} {E : Env} (w : World) : ∀ (k : Nat) (t : TypeId) (ks : List Q1), eqSz P k t = some ks → EqOk P E w k t ks := by
  intro k
  induction k with
  | zero => intro t ks h; cases h
  | succ k ih =>
    intro t ks h
    have h' := h
    simp only [eqSz] at h'
    split at h'
    · rename_i fs hu
      split at h'
      · cases h'
      · rename_i hst
        split at h'
        · rename_i ks' hf
          split at h'
          · cases h'
            have hag := tAg_of hu
            refine ⟨⟨true, hag, fun h => by cases h⟩, fun d hd a b l m r sa sb va vb hl hm hv => ?_⟩
            obtain ⟨xs, rfl⟩ := sa.1 hag
            obtain ⟨ys, rfl⟩ := sb.1 hag
            obtain ⟨d, rfl⟩ : ∃ e, d = e + 1 := ⟨d - 1, by omega⟩
            have hfo : P.fieldsOf t = fs := by simp [Program.fieldsOf, hu]
            rw [run_equalIn_struct w d t xs ys (by rw [hfo]; exact hu) (by simpa using hst), hfo]
            exact eqFs_spec ih (by omega) fs.toList 0 _ hf xs ys l m r va vb (by simpa using hl) (by simpa using hm) (by simpa using hv)
          · cases h'
        · cases h'
    · rename_i n e hu
      split at h'
      · rename_i js hj
        split at h'
        · cases h'
          obtain ⟨hage, hq⟩ := ih _ _ hj
          have hag := tAg_of hu
          refine ⟨⟨true, hag, fun h => by cases h⟩, fun d hd a b l m r sa sb va vb hl hm hv => ?_⟩
          obtain ⟨xs, rfl⟩ := sa.1 hag
          obtain ⟨ys, rfl⟩ := sb.1 hag
          obtain ⟨d, rfl⟩ : ∃ e, d = e + 1 := ⟨d - 1, by omega⟩
          have hl' : l.length = n * js.length := by simpa using hl
          have hm' : m.length = n * js.length := by simpa using hm
          rw [Op.equalIn]
          simp only [Sem.run_bind, run_underlying hu, Result.andThen_ok, run_size (eqSz_size hj)]
          have key : ∀ (F : Nat → Option Bool × Unit → Sem (ForInStep (Option Bool × Unit))), (∀ i s a b p, (part e xs (i * js.length)).run P w = .ok a w → (part e ys (i * js.length)).run P w = .ok b w → (Op.equalIn d e a b).run P w = .ok p w →
                (F i s).run P w = .ok (if p then .yield (none, ()) else .done (some false, ())) w) → ∀ (c i : Nat) (r : Bool), i + c = n → veqs (List.replicate c js).flatten (l.drop (i * js.length)) (m.drop (i * js.length)) = some r →
              ∃ y : Option Bool × Unit, (forIn (List.range' i c) ((none, ()) : Option Bool × Unit) F).run P w = .ok y w ∧ y.1.getD true = r := by
            intro F hF c
            induction c with
            | zero =>
              intro i r hi hv
              rw [List.drop_of_length_le (by rw [hl', ← hi]; simp), List.drop_of_length_le (by rw [hm', ← hi]; simp)] at hv
              cases hv
              exact ⟨_, rfl, rfl⟩
            | succ c ihc =>
              intro i r hi hv
              rw [List.replicate_succ, List.flatten_cons] at hv
              have hle : i * js.length + js.length ≤ n * js.length := by rw [← Nat.succ_mul]; exact Nat.mul_le_mul_right _ (by omega)
              have el : l.drop (i * js.length) = (l.drop (i * js.length)).take js.length ++ l.drop ((i + 1) * js.length) := by rw [Nat.succ_mul, ← List.drop_drop, List.take_append_drop]
              have em : m.drop (i * js.length) = (m.drop (i * js.length)).take js.length ++ m.drop ((i + 1) * js.length) := by rw [Nat.succ_mul, ← List.drop_drop, List.take_append_drop]
              rw [el, em] at hv
              obtain ⟨p, q, e1, e2, e3⟩ := veqs_append (by simp; omega) (by simp; omega) hv
              obtain ⟨a, ra, sa, ca⟩ := run_part (off := i * js.length) w (eqSz_size hj) hage va (by omega)
              obtain ⟨b, rb, sb, cb⟩ := run_part (off := i * js.length) w (eqSz_size hj) hage vb (by omega)
              have h1 := hq d (by omega) a b _ _ p sa sb (by rw [ca]; exact va.slice _ _) (by rw [cb]; exact vb.slice _ _) (by simp; omega) (by simp; omega) e1
              obtain ⟨y, hy, hr⟩ := ihc (i + 1) q (by omega) e2
              rw [List.range'_succ, List.forIn_cons, Sem.run_bind, hF i _ a b p ra rb h1]
              cases p with
              | false => exact ⟨(some false, ()), rfl, by simp [e3]⟩
              | true => exact ⟨y, hy, by simpa [e3] using hr⟩
          simp only [Std.Legacy.Range.forIn_eq_forIn_range', Std.Legacy.Range.size]
          simp only [Nat.sub_zero, Nat.add_sub_cancel, Nat.div_one]
          have main : ∀ (F : Nat → Option Bool × Unit → Sem (ForInStep (Option Bool × Unit))) (G : Option Bool × Unit → World → Result Bool), (∀ i s a b p, (part e xs (i * js.length)).run P w = .ok a w → (part e ys (i * js.length)).run P w = .ok b w → (Op.equalIn d e a b).run P w = .ok p w →
                (F i s).run P w = .ok (if p then .yield (none, ()) else .done (some false, ())) w) → (∀ y, G y w = .ok (y.1.getD true) w) → ((forIn (List.range' 0 n) ((none, ()) : Option Bool × Unit) F).run P w).andThen G = .ok r w := by
            intro F G hF hG
            obtain ⟨y, hy, hr⟩ := key F hF n 0 r (by omega) (by simpa using hv)
            rw [hy, Result.andThen_ok, hG, hr]
          refine main _ _ (fun i s a b p ra rb h1 => ?_) (fun y => ?_)
          · simp only [Sem.run_bind, ra, rb, h1, Result.andThen_ok, Sem.run_ite]
            cases p <;> rfl
          · obtain ⟨y1, y2⟩ := y
            cases y1 <;> rfl
        · cases h'
      · cases h'
    · rename_i td hns hna hu
      split at h'
      · rename_i q hq
        split at h'
        · cases h'
          have hag : tAg P t = some false := by
            rw [tAg_of hu]
            cases td <;> simp [q1Of] at hq <;> rfl
          refine ⟨⟨false, hag, fun _ => rfl⟩, fun d hd a b l m r sa sb va vb hl hm hv => ?_⟩
          have ca := sa.2 hag
          have cb := sb.2 hag
          obtain ⟨d, rfl⟩ : ∃ e, d = e + 1 := ⟨d - 1, by omega⟩
          match l, m, hl, hm with
          | [p], [s], _, _ =>
            have hp : VR E p a := (va.2 0 a (by rw [ca]; rfl)).2 p rfl
            have hs : VR E s b := (vb.2 0 b (by rw [cb]; rfl)).2 s rfl
            simp only [veqs] at hv
            split at hv
            · rename_i r1 r2 h1 h2
              cases h2; cases hv
              rw [Bool.and_true]
              rw [Op.equalIn]
              cases td <;> simp [q1Of] at hq <;> subst hq
              · unfold veq1 at h1
                split at h1 <;> first
                  | (cases h1; cases hp; cases hs; simp [run_underlying hu]; done)
                  | (rename_i he _ _; cases he; done)
                  | (cases h1; done)
                  | (rename_i he; cases he; done)
              · unfold veq1 at h1
                split at h1
                · split at h1
                  · rename_i hk; cases h1; cases hp; cases hs; simp [run_underlying hu, hk]
                  · cases h1
                all_goals first
                  | (cases h1; done)
                  | (rename_i he _ _; cases he; done)
                  | (rename_i he; cases he; done)
              · unfold veq1 at h1
                split at h1 <;> first
                  | (cases h1; cases hp; cases hs; simp [run_underlying hu, beq_toListBytes]; done)
                  | (rename_i he _ _; cases he; done)
                  | (cases h1; done)
                  | (rename_i he; cases he; done)
            · cases hv
        · cases h'
      · cases h'
    · cases h'
end Go.Vs
