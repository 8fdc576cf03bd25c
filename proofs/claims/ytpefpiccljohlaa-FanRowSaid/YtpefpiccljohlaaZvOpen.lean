/- How a law's arguments are read as plain data, and what its row asks behind the call. -/
import Derived.Test.YtpefpiccljohlaaZvPure
import Derived.ProofKit
import Derived.Deep.Slices
import Derived.Carry
namespace Go.Vs
open Go.RowKit Go.ChangeShapes
set_option linter.unusedSimpArgs false
set_option linter.unusedVariables false

/-- The types of plain data. -/
inductive Ty where
  | bool
  | int (k : IntKind)
  | str
  | sl (e : Ty) (ag : Bool)
  | agg (fs : List Ty)

mutual
def Ty.size : Ty → Nat
  | .agg fs => Ty.sizes fs
  | _ => 1
def Ty.sizes : List Ty → Nat
  | [] => 0
  | t :: r => t.size + Ty.sizes r
end

mutual
/-- The cells are of that type. -/
def Has : Ty → List V → Prop
  | .bool, xs => ∃ b, xs = [.bool b]
  | .int k, xs => ∃ n, xs = [.int k n] ∧ k.min ≤ n ∧ n ≤ k.max
  | .str, xs => ∃ s, xs = [.str s] ∧ s.length ≤ maxLen
  | .sl e ag, xs => xs = [.nsl] ∨ ∃ l, xs = [.lst false l] ∧ l.length ≤ maxLen ∧ ∀ x ∈ l, (if ag = true then x = .agg x.cells else x.cells = [x]) ∧ x.cells.length = e.size ∧ Has e x.cells
  | .agg fs, xs => Hass fs xs
def Hass : List Ty → List V → Prop
  | [], xs => xs = []
  | t :: r, xs => ∃ a b, xs = a ++ b ∧ a.length = t.size ∧ Has t a ∧ Hass r b
end

mutual
def ckPt (P : Program) : Ty → TypeId → Bool
  | .bool, t => match P.underlying t with | some .bool => true | _ => false
  | .int k, t => match P.underlying t with | some (.int k') => k' == k | _ => false
  | .str, t => match P.underlying t with | some .string => true | _ => false
  | .sl e ag, t => match P.underlying t with | some (.slice u) => ckPt P e u && P.cellsOf u == e.size && decide (0 < e.size) && (ag || e.size == 1) | _ => false
  | .agg fs, t => match P.underlying t with
    | some (.struct gs) => P.cellsOf t == Ty.sizes fs && ckPfs P fs gs.toList 0
    | some (.array n u) => P.cellsOf t == Ty.sizes fs && n == fs.length && ckPes P fs u
    | _ => false
def ckPfs (P : Program) : List Ty → List Field → Nat → Bool
  | [], [], _ => true
  | t :: r, f :: gs, o => f.offset == o && P.cellsOf f.type == t.size && ckPt P t f.type && ckPfs P r gs (o + t.size)
  | _, _, _ => false
def ckPes (P : Program) : List Ty → TypeId → Bool
  | [], _ => true
  | t :: r, u => P.cellsOf u == t.size && ckPt P t u && ckPes P r u
end

/-- All that there is ahead of the call is told, as what nobody writes. -/
def frzE (W : World) : Env := { n := 0, mu := fun _ => none, frz := fun b o => W.cell? ⟨b, o, none⟩, old := fun _ _ => False }

theorem frzE_sr (W : World) : SR W (frzE W) [] W :=
  ⟨rfl, Below.refl _ _, fun _ _ _ h => h, fun β x hx => (by simp at hx), fun β l hm => (by cases hm), fun β β' l l' b o h1 => (by cases h1), fun β l b o hm => (by cases hm), fun b o ho => ho.elim⟩

/-- Plain cells, as the machine has them. -/
def Cells (W : World) (xs : List V) (cs : List Value) : Prop := xs.length = cs.length ∧ ∀ (j : Nat) x v, xs[j]? = some x → cs[j]? = some v → VR (frzE W) x v ∧ v.oneCell' = true ∧ x.one = true

theorem Cells.one {W : World} {x : V} {v : Value} (h : VR (frzE W) x v) (h1 : v.oneCell' = true) (h2 : x.one = true) : Cells W [x] [v] := by
  refine ⟨rfl, fun j y u hy hu => ?_⟩
  match j with
  | 0 => simp at hy hu; subst hy; subst hu; exact ⟨h, h1, h2⟩
  | j + 1 => simp at hy

theorem Cells.nil {W : World} : Cells W [] [] := ⟨rfl, fun j y u hy => by simp at hy⟩

theorem Cells.append {W : World} {a b : List V} {c d : List Value} (h : Cells W a c) (k : Cells W b d) : Cells W (a ++ b) (c ++ d) := by
  refine ⟨by simp [h.1, k.1], fun j x v hx hv => ?_⟩
  rcases Nat.lt_or_ge j a.length with hj | hj
  · rw [List.getElem?_append_left hj] at hx
    rw [List.getElem?_append_left (by have := h.1; omega)] at hv
    exact h.2 j x v hx hv
  · rw [List.getElem?_append_right hj] at hx
    rw [List.getElem?_append_right (by have := h.1; omega), ← h.1] at hv
    exact k.2 _ x v hx hv

theorem Has.length {W : World} : True := trivial

section
variable {H : Type} {enc : TypeId × Value → H} {P : Program} {W : World} {base : Nat} {spare : Nat → Bool} {held : Bool}

theorem mapM_some_cons {α β : Type} {f : α → Option β} {a : α} {l : List α} {ys : List β} (h : (a :: l).mapM f = some ys) : ∃ y r, f a = some y ∧ l.mapM f = some r ∧ ys = y :: r := by
  simp only [List.mapM_cons, Option.bind_eq_bind, Option.pure_def] at h
  obtain ⟨y, h1, h2⟩ := Option.bind_eq_some_iff.1 h
  obtain ⟨r, h3, h4⟩ := Option.bind_eq_some_iff.1 h2
  exact ⟨y, r, h1, h3, (Option.some.inj h4).symm⟩

mutual
theorem open_ty : ∀ (T : Ty) (t : TypeId) (fuel : Nat) (cs : List Value) (x : DataW H × List MemPlace), ckPt P T t = true → DataW.trod enc P W base spare held fuel t cs = some x →
    ∃ xs, Has T xs ∧ xs.length = T.size ∧ Cells W xs cs
  | .bool, t, fuel, cs, x, hc, h => by
    simp only [ckPt] at hc
    split at hc
    · rename_i hu
      obtain ⟨b, rfl, _⟩ := DataW.trod_bool hu h
      exact ⟨[.bool b], ⟨b, rfl⟩, rfl, Cells.one (.bool b) rfl rfl⟩
    · cases hc
  | .int k, t, fuel, cs, x, hc, h => by
    simp only [ckPt] at hc
    split at hc
    · rename_i k' hu
      simp only [beq_iff_eq] at hc
      subst hc
      obtain ⟨m, rfl, _, hwf⟩ := DataW.trod_int hu h
      simp only [Lit.wf, Bool.and_eq_true, decide_eq_true_eq] at hwf
      exact ⟨[.int k' m], ⟨m, rfl, hwf.1, hwf.2⟩, rfl, Cells.one (.int k' m) rfl rfl⟩
    · cases hc
  | .str, t, fuel, cs, x, hc, h => by
    simp only [ckPt] at hc
    split at hc
    · rename_i hu
      obtain ⟨s, rfl, _, hl⟩ := DataW.trod_string hu h
      have hs : (⟨s.data.toList.toArray⟩ : ByteArray) = s := by cases s; simp
      have hv := VR.str (E := frzE W) s.data.toList
      rw [hs] at hv
      refine ⟨[.str s.data.toList], ⟨s.data.toList, rfl, ?_⟩, rfl, Cells.one hv rfl rfl⟩
      rw [Array.length_toList]
      exact hl
    · cases hc
  | .sl e ag, t, fuel, cs, x, hc, h => by
    simp only [ckPt] at hc
    split at hc
    · rename_i u hu
      simp only [Bool.and_eq_true, beq_iff_eq, decide_eq_true_eq, Bool.or_eq_true] at hc
      obtain ⟨⟨⟨hce, hsz⟩, hpos⟩, hag⟩ := hc
      rcases Deep.open_slice hu h with ⟨rfl, rfl⟩ | ⟨a, len, cap, m, n, D, Pl, rfl, hb, hl, hm, hmm, rfl, hel⟩
      · exact ⟨[.nsl], .inl rfl, rfl, Cells.one .nsl rfl rfl⟩
      · have hlm : len ≤ m := by rw [hmm]; split <;> omega
        have hex : ∀ i, i < len → ∃ ys : List V, ∃ cs', W.cells? base (a.add (i * P.cellsOf u)) (P.cellsOf u) = some cs' ∧ Has e ys ∧ ys.length = e.size ∧ Cells W ys cs' := fun i hi => by
          obtain ⟨cs', h1, h2⟩ := hel i (by omega)
          obtain ⟨ys, h3, h4, h5⟩ := open_ty e u n cs' _ hce h2
          exact ⟨ys, cs', h1, h3, h4, h5⟩
        obtain ⟨Y, hY⟩ := Deep.choose_lt (α := List V) hex
        let el (ys : List V) : V := if ag = true then .agg ys else ys.headD .nptr
        have hels : ∀ i, i < len → (el (Y i)).cells = Y i := fun i hi => by
          obtain ⟨cs', h1, h3, h4, h5⟩ := hY i hi
          show (if ag = true then V.agg (Y i) else (Y i).headD .nptr).cells = Y i
          by_cases hg : ag = true
          · rw [if_pos hg]; rfl
          · rw [if_neg hg]
            have h1 : e.size = 1 := hag.resolve_left hg
            rw [h1] at h4
            match hyi : Y i, h4 with
            | [y], _ =>
              have := h5.1
              rw [hyi] at h5
              obtain ⟨c, hc⟩ : ∃ c, cs' = [c] := by
                have := h5.1
                match cs', this with
                | [c], _ => exact ⟨c, rfl⟩
              subst hc
              have h1' := (h5.2 0 y c rfl rfl).2.2
              show y.cells = [y]
              cases y <;> first | rfl | (simp [V.one] at h1')
        have hflat : ∀ n', n' ≤ len → flat ((List.range n').map fun i => el (Y i)) = (List.range n').flatMap Y := fun n' hn' => by
          unfold flat
          rw [List.flatMap_map]
          rw [List.flatMap_def, List.flatMap_def]
          congr 1
          refine List.map_congr_left fun i hi => ?_
          rw [List.mem_range] at hi
          exact hels i (by omega)
        have hYlen : ∀ i, i < len → (Y i).length = e.size := fun i hi => by obtain ⟨_, _, _, h4, _⟩ := hY i hi; exact h4
        have hfl : ∀ n', n' ≤ len → ((List.range n').flatMap Y).length = n' * e.size := by
          intro n' hn'
          induction n' with
          | zero => simp
          | succ k ih => rw [List.range_succ, List.flatMap_append, List.length_append, ih (by omega)]; simp [hYlen k (by omega), Nat.succ_mul]
        have hfa : ∀ n', n' ≤ len → ∀ i, i < n' → ∀ j, j < e.size → ((List.range n').flatMap Y)[i * e.size + j]? = (Y i)[j]? := by
          intro n' hn'
          induction n' with
          | zero => intro i hi; omega
          | succ k ih =>
            intro i hi j hj
            rw [List.range_succ, List.flatMap_append]
            by_cases hik : i = k
            · subst hik
              rw [List.getElem?_append_right (by rw [hfl i (by omega)]; omega), hfl i (by omega)]
              simp
            · have : (i + 1) * e.size ≤ k * e.size := Nat.mul_le_mul_right _ (by omega)
              rw [Nat.succ_mul] at this
              rw [List.getElem?_append_left (by rw [hfl k (by omega)]; omega)]
              exact ih (by omega) i (by omega) j hj
        have hspot : 0 < len → a.spot = none := fun h0 => by
          obtain ⟨cs', h1, _⟩ := hY 0 h0
          obtain ⟨_, h2, h3⟩ := World.cells?_some h1
          have h4 := h3 0 (by omega)
          rw [List.getElem?_eq_getElem (by omega)] at h4
          have := World.cell?_spot h4
          simpa [Addr.add] using this
        have hcell : ∀ i, i < len → ∀ j, j < e.size → ∃ v, W.cell? ⟨a.block, a.off + (i * e.size + j), none⟩ = some v ∧ (∀ y, (Y i)[j]? = some y → VR (frzE W) y v) ∧ v.oneCell' = true := fun i hi j hj => by
          obtain ⟨cs', h1, h3, h4, h5⟩ := hY i hi
          obtain ⟨_, h7, h8⟩ := World.cells?_some h1
          have hj' : j < cs'.length := by rw [h7, hsz]; exact hj
          have h9 := h8 j (by omega)
          rw [List.getElem?_eq_getElem hj'] at h9
          have hs := hspot (by omega)
          have ha : (a.add (i * P.cellsOf u)).add j = ⟨a.block, a.off + (i * e.size + j), none⟩ := by
            rw [hsz, Deep.add_add]
            unfold Addr.add
            split
            · rename_i h0
              cases a
              simp at hs ⊢
              exact ⟨by omega, hs⟩
            · rfl
          rw [ha] at h9
          refine ⟨_, h9, fun y hy => (h5.2 j y _ hy (List.getElem?_eq_getElem hj')).1, ?_⟩
          have hy : j < (Y i).length := by omega
          exact (h5.2 j _ _ (List.getElem?_eq_getElem hy) (List.getElem?_eq_getElem hj')).2.1
        let l : List V := (List.range len).map fun i => el (Y i)
        have hll : l.length = len := by simp [l]
        have hfll : flat l = (List.range len).flatMap Y := hflat len (Nat.le_refl _)
        have hfllen : (flat l).length = len * e.size := by rw [hfll]; exact hfl len (Nat.le_refl _)
        have hsplit : ∀ j, j < len * e.size → ∃ i k, i < len ∧ k < e.size ∧ j = i * e.size + k := fun j hj => by
          refine ⟨j / e.size, j % e.size, ?_, Nat.mod_lt _ hpos, ?_⟩
          · exact (Nat.div_lt_iff_lt_mul hpos).2 hj
          · rw [Nat.mul_comm]; exact (Nat.div_add_mod j e.size).symm
        obtain ⟨vals, hvals⟩ := Deep.choose_lt (α := Value) (n := len * e.size) (p := fun j v => W.cell? ⟨a.block, a.off + j, none⟩ = some v ∧ (∀ y, (flat l)[j]? = some y → VR (frzE W) y v) ∧ v.oneCell' = true) fun j hj => by
          obtain ⟨i, k, hi, hk, rfl⟩ := hsplit j hj
          obtain ⟨v, h1, h2, h3⟩ := hcell i hi k hk
          exact ⟨v, h1, fun y hy => h2 y (by rw [hfll, hfa len (Nat.le_refl _) i hi k hk] at hy; exact hy), h3⟩
        refine ⟨[.lst false l], .inr ⟨l, rfl, by rw [hll]; omega, fun x hx => ?_⟩, rfl, Cells.one ?_ rfl rfl⟩
        · obtain ⟨i, hi, rfl⟩ := List.mem_map.1 hx
          rw [List.mem_range] at hi
          have hxc := hels i hi
          rw [hxc]
          obtain ⟨cs', h1, h3, h4, h5⟩ := hY i hi
          refine ⟨?_, h4, h3⟩
          by_cases hg : ag = true
          · rw [if_pos hg]; show el (Y i) = V.agg (Y i); simp only [el]; rw [if_pos hg]
          · rw [if_neg hg]
            have h1 : e.size = 1 := hag.resolve_left hg
            rw [h1] at h4
            match hyi : Y i, h4 with
            | [y], _ => show [y] = [el [y]]; simp only [el]; rw [if_neg hg]; rfl
        · rw [← hll]
          refine .lst false l e.size a a.block a.off cap vals (by omega) (by simp) (fun x hx => ?_) (fun hne => ?_) (fun j hj => ?_) (fun j hj => ?_) (fun j hj => ?_)
          · obtain ⟨i, hi, rfl⟩ := List.mem_map.1 hx
            rw [List.mem_range] at hi
            rw [hels i hi]; exact hYlen i hi
          · have h0 : 0 < len := by rw [← hll]; exact List.length_pos_iff.2 hne
            have := hspot h0
            cases a; simp at this ⊢; exact this
          · exact (hvals j (by omega)).1
          · exact (hvals j (by omega)).2.1 _ (List.getElem?_eq_getElem hj)
          · exact (hvals j (by omega)).2.2
    · cases hc
  | .agg fs, t, 0, cs, x, hc, h => by simp [DataW.trod] at h
  | .agg fs, t, n + 1, cs, x, hc, h => by
    simp only [ckPt] at hc
    split at hc
    · rename_i gs hu
      simp only [Bool.and_eq_true, beq_iff_eq] at hc
      unfold DataW.trod at h
      rw [hu] at h
      simp only at h
      split at h
      · rename_i hl
        obtain ⟨ys, h1, _⟩ := Option.map_eq_some_iff.1 h
        obtain ⟨xs, h2, h3, h4⟩ := open_fs fs gs.toList 0 n cs ys hc.2 (by rw [hl, hc.1]; omega) h1
        exact ⟨xs, h2, h3, by simpa using h4⟩
      · cases h
    · rename_i m u hu
      simp only [Bool.and_eq_true, beq_iff_eq] at hc
      unfold DataW.trod at h
      rw [hu] at h
      simp only at h
      split at h
      · rename_i hl
        obtain ⟨ys, h1, _⟩ := Option.map_eq_some_iff.1 h
        have e1 : List.range m = List.range' 0 fs.length := by rw [hc.1.2, List.range_eq_range']
        rw [e1] at h1
        obtain ⟨xs, h2, h3, h4⟩ := open_es fs u 0 n cs ys hc.2 (by rw [hl, hc.1.1]; omega) h1
        exact ⟨xs, h2, h3, by simpa using h4⟩
      · cases h
    · cases hc

theorem open_fs : ∀ (fs : List Ty) (gs : List Field) (o : Nat) (fuel : Nat) (cs : List Value) (ys : List (DataW H × List MemPlace)), ckPfs P fs gs o = true → cs.length = o + Ty.sizes fs →
    (gs.mapM fun f => DataW.trod enc P W base spare held fuel f.type ((cs.drop f.offset).take (P.cellsOf f.type))) = some ys →
    ∃ xs, Hass fs xs ∧ xs.length = Ty.sizes fs ∧ Cells W xs (cs.drop o)
  | [], [], o, fuel, cs, ys, hc, hl, h => ⟨[], rfl, rfl, by rw [List.drop_eq_nil_of_le (by simp [Ty.sizes] at hl; omega)]; exact Cells.nil⟩
  | [], _ :: _, o, fuel, cs, ys, hc, hl, h => by simp [ckPfs] at hc
  | _ :: _, [], o, fuel, cs, ys, hc, hl, h => by simp [ckPfs] at hc
  | t :: r, f :: gs, o, fuel, cs, ys, hc, hl, h => by
    simp only [ckPfs, Bool.and_eq_true, beq_iff_eq] at hc
    obtain ⟨⟨⟨ho, hsz⟩, hck⟩, hr⟩ := hc
    obtain ⟨y, yr, h1, h2, rfl⟩ := mapM_some_cons h
    simp only [Ty.sizes] at hl
    obtain ⟨a, h3, h4, h5⟩ := open_ty t f.type fuel _ y hck h1
    obtain ⟨b, h6, h7, h8⟩ := open_fs r gs (o + t.size) fuel cs yr hr (by omega) h2
    refine ⟨a ++ b, ⟨a, b, rfl, h4, h3, h6⟩, by simp [Ty.sizes, h4, h7], ?_⟩
    rw [ho, hsz] at h5
    have e : cs.drop o = (cs.drop o).take t.size ++ cs.drop (o + t.size) := by rw [← List.drop_drop, List.take_append_drop]
    rw [e]
    exact h5.append h8

theorem open_es : ∀ (fs : List Ty) (u : TypeId) (i : Nat) (fuel : Nat) (cs : List Value) (ys : List (DataW H × List MemPlace)), ckPes P fs u = true → cs.length = i * P.cellsOf u + Ty.sizes fs →
    ((List.range' i fs.length).mapM fun i => DataW.trod enc P W base spare held fuel u ((cs.drop (i * P.cellsOf u)).take (P.cellsOf u))) = some ys →
    ∃ xs, Hass fs xs ∧ xs.length = Ty.sizes fs ∧ Cells W xs (cs.drop (i * P.cellsOf u))
  | [], u, i, fuel, cs, ys, hc, hl, h => ⟨[], rfl, rfl, by rw [List.drop_eq_nil_of_le (by simp [Ty.sizes] at hl; omega)]; exact Cells.nil⟩
  | t :: r, u, i, fuel, cs, ys, hc, hl, h => by
    simp only [ckPes, Bool.and_eq_true, beq_iff_eq] at hc
    obtain ⟨⟨hsz, hck⟩, hr⟩ := hc
    rw [List.length_cons, List.range'_succ] at h
    obtain ⟨y, yr, h1, h2, rfl⟩ := mapM_some_cons h
    simp only [Ty.sizes] at hl
    obtain ⟨a, h3, h4, h5⟩ := open_ty t u fuel _ y hck h1
    have e2 : (i + 1) * P.cellsOf u = i * P.cellsOf u + t.size := by rw [Nat.succ_mul, hsz]
    obtain ⟨b, h6, h7, h8⟩ := open_es r u (i + 1) fuel cs yr hr (by rw [e2]; omega) h2
    refine ⟨a ++ b, ⟨a, b, rfl, h4, h3, h6⟩, by simp [Ty.sizes, h4, h7], ?_⟩
    rw [e2] at h8
    have e : cs.drop (i * P.cellsOf u) = (cs.drop (i * P.cellsOf u)).take t.size ++ cs.drop (i * P.cellsOf u + t.size) := by rw [← List.drop_drop, List.take_append_drop]
    rw [e]
    have h5' : Cells W a ((cs.drop (i * P.cellsOf u)).take t.size) := by rw [← hsz]; exact h5
    exact h5'.append h8
end
end
end Go.Vs
