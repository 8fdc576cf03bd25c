/- A law's row, out of what is shown of the law over plain data. -/
import Derived.Test.YtpefpiccljohlaaZvOpen
namespace Go.Vs
open Go.RowKit Go.ChangeShapes

/-- A parameter of that type. -/
def HasA (T : Ty) (x : V) : Prop := Has T x.cells ∧ match T with
  | .agg _ => x = .agg x.cells
  | _ => x.cells = [x]
def HasAs : List Ty → List V → Prop
  | [], xs => xs = []
  | T :: r, xs => ∃ x ys, xs = x :: ys ∧ HasA T x ∧ HasAs r ys
def ckPts (P : Program) : List Ty → List TypeId → Bool
  | [], [] => true
  | T :: r, t :: ts => ckPt P T t && ckPts P r ts
  | _, _ => false

section
variable {H : Type} {enc : TypeId × Value → H} {P : Program} {W : World} {base b0 : Nat} {spare : Nat → Bool} {held : Bool}

theorem Cells.agg {xs : List V} {cs : Array Value} (h : Cells W xs cs.toList) : VR (frzE W) (.agg xs) (.agg cs) :=
  .agg xs cs (by have := h.1; simpa using this.symm) (fun j x v hx hv => (h.2 j x v hx (by rw [Array.getElem?_toList]; exact hv)).1) (fun j v hv => by
    have hj : j < cs.size := (Array.getElem?_eq_some_iff.1 hv).1
    have hj' : j < xs.length := by have := h.1; simp at this; omega
    exact (h.2 j _ v (List.getElem?_eq_getElem hj') (by rw [Array.getElem?_toList]; exact hv)).2.1)

theorem Cells.single {xs : List V} {v : Value} (hn : v.oneCell' = true) (hl : xs.length = 1) (h : Cells W xs v.cells.toList) : ∃ x, xs = [x] ∧ VR (frzE W) x v ∧ x.cells = [x] := by
  match xs, hl with
  | [x], _ =>
    have hc : v.cells.toList = [v] := by cases v <;> first | rfl | cases hn
    rw [hc] at h
    have h0 := h.2 0 x v rfl rfl
    refine ⟨x, rfl, h0.1, ?_⟩
    have := h0.2.2
    cases x <;> first | rfl | cases this

theorem open_arg {T : Ty} {t : TypeId} {v : Value} {d : DataW H} {p : List MemPlace} (hc : ckPt P T t = true) (hok : Value.okWide P W .any b0 t v) (h : DataW.Trod enc P W base spare held t v d p) : ∃ x, HasA T x ∧ VR (frzE W) x v := by
  obtain ⟨fuel, h⟩ := h
  obtain ⟨xs, h1, h2, h3⟩ := open_ty T t fuel _ _ hc h
  cases T with
  | agg fs =>
    have : ∃ cs, v = .agg cs := by
      simp only [ckPt] at hc
      split at hc
      · rename_i gs hu; simp only [Value.okWide, hu] at hok; obtain ⟨cs, rfl, _⟩ := hok; exact ⟨cs, rfl⟩
      · rename_i n u hu; simp only [Value.okWide, hu] at hok; obtain ⟨cs, rfl, _⟩ := hok; exact ⟨cs, rfl⟩
      · cases hc
    obtain ⟨cs, rfl⟩ := this
    exact ⟨.agg xs, ⟨h1, rfl⟩, Cells.agg h3⟩
  | bool =>
    have hn : v.oneCell' = true := by
      simp only [ckPt] at hc
      split at hc
      · rename_i hu; simp only [Value.okWide, Cell.okWide, Cell.ok, hu] at hok; cases v <;> first | rfl | exact hok.elim
      · cases hc
    obtain ⟨x, rfl, h4, h5⟩ := h3.single hn h2
    exact ⟨x, ⟨by rw [h5]; exact h1, h5⟩, h4⟩
  | int k =>
    have hn : v.oneCell' = true := by
      simp only [ckPt] at hc
      split at hc
      · rename_i hu; simp only [Value.okWide, Cell.okWide, Cell.ok, hu] at hok; cases v <;> first | rfl | exact hok.elim
      · cases hc
    obtain ⟨x, rfl, h4, h5⟩ := h3.single hn h2
    exact ⟨x, ⟨by rw [h5]; exact h1, h5⟩, h4⟩
  | str =>
    have hn : v.oneCell' = true := by
      simp only [ckPt] at hc
      split at hc
      · rename_i hu; simp only [Value.okWide, Cell.okWide, Cell.ok, hu] at hok; cases v <;> first | rfl | exact hok.elim
      · cases hc
    obtain ⟨x, rfl, h4, h5⟩ := h3.single hn h2
    exact ⟨x, ⟨by rw [h5]; exact h1, h5⟩, h4⟩
  | sl e ag =>
    have hn : v.oneCell' = true := by
      simp only [ckPt] at hc
      split at hc
      · rename_i hu; simp only [Value.okWide, Cell.okWide, Cell.ok, hu] at hok; cases v <;> first | rfl | exact hok.elim
      · cases hc
    obtain ⟨x, rfl, h4, h5⟩ := h3.single hn h2
    exact ⟨x, ⟨by rw [h5]; exact h1, h5⟩, h4⟩

theorem open_args : ∀ (Ts : List Ty) (ts : List TypeId) (vs : List Value) (ds : List (DataW H)) (p : List MemPlace), ckPts P Ts ts = true → (∀ (j : Nat) t v, ts[j]? = some t → vs[j]? = some v → Value.okWide P W .any b0 t v) →
    DataW.TrodAll enc P W base spare held ts vs ds p → ∃ xs, HasAs Ts xs ∧ xs.length = vs.length ∧ ds.length = Ts.length ∧ ∀ (j : Nat) x v, xs[j]? = some x → vs[j]? = some v → VR (frzE W) x v
  | [], [], vs, ds, p, hc, hok, h => by
    obtain ⟨rfl, rfl, rfl⟩ := trodAll_nil h
    exact ⟨[], rfl, rfl, rfl, fun j x v hx => by simp at hx⟩
  | [], _ :: _, vs, ds, p, hc, hok, h => by simp [ckPts] at hc
  | _ :: _, [], vs, ds, p, hc, hok, h => by simp [ckPts] at hc
  | T :: r, t :: ts, vs, ds, p, hc, hok, h => by
    simp only [ckPts, Bool.and_eq_true] at hc
    obtain ⟨v, vs1, d, ds1, a, b, rfl, rfl, rfl, h1, h2⟩ := trodAll_cons h
    obtain ⟨x, h3, h4⟩ := open_arg hc.1 (hok 0 t v rfl rfl) h1
    obtain ⟨xs, h5, h6, h7, h8⟩ := open_args r ts vs1 ds1 b hc.2 (fun j t v ht hv => hok (j + 1) t v ht hv) h2
    refine ⟨x :: xs, ⟨x, xs, rfl, h3, h5⟩, by simp [h6], by simp [h7], fun j y v hy hv => ?_⟩
    match j with
    | 0 => simp at hy hv; subst hy; subst hv; exact h4
    | j + 1 => exact h8 j y v hy hv

theorem trodAll_behind (hl : laidOutB P = true) {W' : World} (hb : Below W.heap.size W W') : ∀ (ts : List TypeId) (vs : List Value) (ds : List (DataW H)) (p : List MemPlace), ts.all (fun t => P.readableRec t && decide (t < P.types.size)) = true →
    (∀ x ∈ p, x.block < W.heap.size) → DataW.TrodAll enc P W 0 (fun _ => true) true ts vs ds p → DataW.TrodAll enc P W' 0 (fun b => decide (b < W.heap.size)) true ts vs ds p
  | [], vs, ds, p, hr, hlt, h => by
    obtain ⟨rfl, rfl, rfl⟩ := trodAll_nil h
    exact trodAll_mk0
  | t :: ts, vs, ds, p, hr, hlt, h => by
    simp only [List.all_cons, Bool.and_eq_true, decide_eq_true_eq] at hr
    obtain ⟨v, vs1, d, ds1, a, b, rfl, rfl, rfl, h1, h2⟩ := trodAll_cons h
    exact ⟨a, b, Below.trod hl hr.1.1 hr.1.2 h1 hb (fun x hx => hlt x (by simp [hx])), trodAll_behind hl hb ts vs1 ds1 b hr.2 (fun x hx => hlt x (by simp [hx])) h2, rfl⟩
end

/-- What a law's row asks of a call. -/
theorem law_contract {x : X} {f : FuncId} {fn : Func} {s : ChangeSpec} {Ts : List Ty} {tb : TypeId} {apart : Bool} {H : Type} {enc : TypeId × Value → H}
    (hlaid : laidOutB x.P = true) (hvars : s.vars = []) (hres : fn.resultTypes = #[tb]) (hb : x.P.underlying tb = some .bool)
    (hread : fn.params.toList.all (fun t => x.P.readableRec t && decide (t < x.P.types.size)) = true) (hck : ckPts x.P Ts fn.params.toList = true)
    (hfn : ∀ ds : List (DataW H), ds.length = Ts.length → s.fn H ds = { results := [.lit (.bool true)], args := ds })
    (hG : ∀ W : World, GR x (frzE W))
    (hlaw : ∀ xs, HasAs Ts xs → PCalls x f xs fun r => r = .ret (.bool true))
    {W : World} {base : Nat} {args : Array Value} {ds gs : List (DataW H)} {before : List MemPlace}
    (hval : ∀ (j : Nat) t v, fn.params[j]? = some t → args[j]? = some v → Value.okWide x.P W .any base t v)
    (hW : DataW.Whole enc x.P fn.params.toList s.vars apart W args.toList ds gs before) :
    Calls x.P f args W fun e W' => ∃ v, e = .returned v ∧ s.post enc x.P fn apart true false false W args v W' := by
  have hW' := hW
  obtain ⟨p, q, hA, hV, rfl, hfz, hnd⟩ := hW
  obtain ⟨xs, h1, h2, h3, h4⟩ := open_args (b0 := base) Ts fn.params.toList args.toList ds p hck (fun j t v ht hv => hval j t v (by rw [← Array.getElem?_toList]; exact ht) (by rw [← Array.getElem?_toList]; exact hv)) hA
  have hq : gs = [] ∧ q = [] := by
    rw [hvars] at hV
    cases gs with
    | nil => exact ⟨rfl, hV⟩
    | cons g r => exact hV.elim
  obtain ⟨rfl, rfl⟩ := hq
  have hvs : VRs (frzE W) xs args := ⟨by rw [h2]; simp, fun j x v hx hv => h4 j x v hx (by rw [Array.getElem?_toList]; exact hv)⟩
  refine ((hlaw xs h1).2 W (frzE W) W args (frzE_sr W) (hG W) hvs).mono ?_
  rintro e W' ⟨E', h', r, hE, hsr, hr, rfl, rfl⟩
  cases e with
  | panicked l => exact hr.elim
  | outgrown => exact hr.elim
  | returned v =>
    cases hr
    refine ⟨_, rfl, ds, [], p ++ [], [], p, [], hW', ?_, ?_, ?_, hsr.below.frame _, fun h => by cases h⟩
    · rw [List.append_nil, hfn ds h3, hres]
      exact trodAll_mk1 (shut_bool hb true)
    · rw [List.append_nil, hfn ds h3]
      exact trodAll_behind hlaid hsr.below _ _ _ _ hread (fun y hy => hW'.lt y (by simp [hy])) hA
    · rw [List.append_nil, hfn ds h3, hvars]
      rfl
end Go.Vs
