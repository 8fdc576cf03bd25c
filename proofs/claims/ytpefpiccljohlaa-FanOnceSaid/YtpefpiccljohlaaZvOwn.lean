/- Slices that a call has made itself. -/
import Derived.Test.YtpefpiccljohlaaZvIce
namespace Go.Vs
open Go.RowKit

theorem setAll_eq : ∀ (xs cs : List V) (o : Nat), o + xs.length ≤ cs.length → setAll cs o xs = cs.take o ++ xs ++ cs.drop (o + xs.length)
  | [], cs, o, _ => by simp [setAll]
  | x :: r, cs, o, h => by
    simp only [List.length_cons] at h
    rw [setAll, setAll_eq r _ _ (by simp; omega)]
    have h1 : (cs.set o x).take (o + 1) = cs.take o ++ [x] := by
      rw [List.take_set, List.take_add_one, List.getElem?_eq_getElem (by omega)]
      simp only [Option.toList_some]
      rw [List.set_append_right _ _ (by simp; omega)]
      have : o - (List.take o cs).length = 0 := by simp; omega
      rw [this]; rfl
    have h2 : (cs.set o x).drop (o + 1 + r.length) = cs.drop (o + (r.length + 1)) := by
      rw [List.drop_set_of_lt (by omega)]
      congr 1; omega
    rw [h1, h2]
    simp

/-- Nothing of what lies below k has turned. -/
def Frm (k : Nat) (h h' : Hp) : Prop := k ≤ h'.length ∧ h'.take k = h.take k
theorem Frm.refl {k : Nat} {h : Hp} (hk : k ≤ h.length) : Frm k h h := ⟨hk, rfl⟩
theorem Frm.trans {k : Nat} {h h' h'' : Hp} (a : Frm k h h') (b : Frm k h' h'') : Frm k h h'' := ⟨b.1, b.2.trans a.2⟩
theorem Frm.append {k : Nat} {h : Hp} (hk : k ≤ h.length) (l : Hp) : Frm k h (h ++ l) := ⟨by simp; omega, by rw [List.take_append_of_le_length hk]⟩
theorem Frm.set {k : Nat} {h : Hp} (hk : k ≤ h.length) {b : Nat} (hb : k ≤ b) (x : Option Blk) : Frm k h (h.set b x) := ⟨by simp; exact hk, by rw [List.take_set_of_le hb]⟩

/-- Empty, or a row of the call's own, from its first cell on. -/
def Own (h : Hp) (k es : Nat) (ag : Bool) (v : V) (n : Nat) (ys : List V) : Prop :=
  ys.length = n * es ∧ ((v = .nsl ∧ n = 0) ∨ (v = .lst true [] ∧ n = 0) ∨
    ∃ b cap ex rest ty, v = .sl b 0 n cap ex es ag ∧ k ≤ b ∧ hget h b = some (.cells (ys ++ rest) ty) ∧ n ≤ cap ∧ cap * es ≤ (ys ++ rest).length)

theorem Own.sl {h : Hp} {k es : Nat} {ag : Bool} {v : V} {n : Nat} {ys : List V} (H : Own h k es ag v n ys) : Sl h es v n ys := by
  obtain ⟨hl, ⟨rfl, rfl⟩ | ⟨rfl, rfl⟩ | ⟨b, cap, ex, rest, ty, rfl, hb, hg, hc, hce⟩⟩ := H
  · have : ys = [] := List.eq_nil_of_length_eq_zero (by omega)
    subst this; exact ⟨rfl, rfl, trivial⟩
  · have : ys = [] := List.eq_nil_of_length_eq_zero (by omega)
    subst this; exact ⟨by simp [src, flat], rfl, trivial⟩
  · refine ⟨?_, rfl, hc⟩
    simp [src, rd, hg, sub, ← hl]

theorem hget_lt {h : Hp} {b : Nat} {x : Blk} (hg : hget h b = some x) : b < h.length := by
  have := hget_spec hg
  exact (List.getElem?_eq_some_iff.1 this).1

theorem hget_new (h : Hp) (x : Option Blk) : hget (h ++ [x]) h.length = x := by
  unfold hget; rw [List.getElem?_append_right (Nat.le_refl _)]; simp

theorem hget_old {h : Hp} {b : Nat} (hb : b < h.length) (l : Hp) : hget (h ++ l) b = hget h b := by
  unfold hget; rw [List.getElem?_append_left hb]

theorem hget_set {h : Hp} {b : Nat} (hb : b < h.length) (x : Option Blk) : hget (h.set b x) b = x := by
  unfold hget; rw [List.getElem?_set_self hb]; simp

theorem hget_set_ne {h : Hp} {b c : Nat} (hb : b ≠ c) (x : Option Blk) : hget (h.set b x) c = hget h c := by
  unfold hget; rw [List.getElem?_set_ne hb]

/-- A new row. -/
theorem Own.new {h : Hp} {k es : Nat} {ag : Bool} {n : Nat} {ys : List V} (hk : k ≤ h.length) (hl : ys.length = n * es) (ex : Bool) (ty : Option TypeId) : Own (h ++ [some (.cells ys ty)]) k es ag (.sl h.length 0 n n ex es ag) n ys :=
  ⟨hl, .inr (.inr ⟨h.length, n, ex, [], ty, rfl, hk, by rw [hget_new]; simp, Nat.le_refl _, by simp [hl]⟩)⟩

theorem wr_own {h : Hp} {b : Nat} {cs : List V} {ty : Option TypeId} (hg : hget h b = some (.cells cs ty)) {o : Nat} {xs : List V} (hle : o + xs.length ≤ cs.length) : wr h b o xs = some (h.set b (some (.cells (cs.take o ++ xs ++ cs.drop (o + xs.length)) ty))) := by
  simp only [wr, hg, if_pos hle, setAll_eq _ _ _ hle]

/-- Blocks that have nothing to do with a value. -/
def V.blk : V → Option Nat
  | .sl b _ _ _ _ _ _ => some b
  | _ => none

theorem Own.app {h : Hp} {k es bt : Nat} {ag : Bool} {ty : Option TypeId} {v a : V} {n m : Nat} {ys zs : List V} (hk : k ≤ h.length) (H : Own h k es ag v n ys) (ha : src h es a = some (m, zs)) (hz : zs.length = m * es) (hr : (n + m) * bt ≤ room) :
    ∃ v' h', appR h es bt ag ty v a = some (.val v' h') ∧ Own h' k es ag v' (n + m) (ys ++ zs) ∧ Frm k h h' ∧ (∀ c, c < h.length → v.blk ≠ some c → hget h' c = hget h c) ∧ (v'.blk = v.blk ∨ v'.blk = some h.length) ∧ h.length ≤ h'.length := by
  have hyz : (ys ++ zs).length = (n + m) * es := by rw [List.length_append, H.1, hz, Nat.add_mul]
  unfold appR
  rw [ha]
  obtain ⟨hl, ⟨rfl, rfl⟩ | ⟨rfl, rfl⟩ | ⟨b, cap, ex, rest, ty', rfl, hb, hg, hc, hce⟩⟩ := H
  · have hy0 : ys = [] := List.eq_nil_of_length_eq_zero (by omega)
    subst hy0
    simp only [appV]
    by_cases hm : m = 0
    · subst hm
      exact ⟨_, _, by rw [if_pos rfl], ⟨hyz, .inl ⟨rfl, rfl⟩⟩, Frm.refl hk, fun _ _ _ => rfl, .inl rfl, Nat.le_refl _⟩
    · rw [if_neg hm, if_pos (by simpa using hr)]
      refine ⟨_, _, rfl, ?_, Frm.append hk _, fun c hc _ => hget_old hc _, .inr rfl, by simp⟩
      simp only [Nat.zero_add, List.nil_append]
      exact Own.new hk hz false ty
  · have hy0 : ys = [] := List.eq_nil_of_length_eq_zero (by omega)
    subst hy0
    simp only [appV]
    by_cases hm : m = 0
    · subst hm
      exact ⟨_, _, by rw [if_pos rfl], ⟨hyz, .inr (.inl ⟨rfl, rfl⟩)⟩, Frm.refl hk, fun _ _ _ => rfl, .inl rfl, Nat.le_refl _⟩
    · rw [if_neg hm, if_pos ⟨trivial, by simp, by simpa using hr⟩]
      refine ⟨_, _, rfl, ?_, Frm.append hk _, fun c hc _ => hget_old hc _, .inr rfl, by simp⟩
      simp only [Nat.zero_add, List.nil_append, List.length_nil, flat, List.flatMap_nil]
      exact Own.new hk hz false ty
  · have hbl := hget_lt hg
    simp only [appV]
    rw [if_neg (by simp)]
    by_cases hin : n + m ≤ cap
    · rw [if_pos hin, Nat.zero_add]
      have hle : n * es + zs.length ≤ (ys ++ rest).length := by
        have : (n + m) * es ≤ cap * es := Nat.mul_le_mul_right _ hin
        rw [Nat.add_mul] at this; omega
      rw [wr_own hg hle]
      refine ⟨_, _, rfl, ⟨hyz, .inr (.inr ⟨b, cap, ex, (ys ++ rest).drop (n * es + zs.length), ty', rfl, hb, ?_, hin, ?_⟩)⟩, Frm.set hk hb _, fun c _ hne => hget_set_ne (fun e => hne (by rw [e]; rfl)) _, .inl rfl, by simp⟩
      · rw [hget_set hbl]
        simp [← hl]
      · rw [List.length_append, List.length_drop, hyz, Nat.add_mul, hz]
        rw [hz] at hle
        omega
    · rw [if_neg hin, if_pos hr]
      have hrd : rd h (.ptr b 0) (n * es) = some ys := by simp [rd, hg, sub, ← hl]
      rw [hrd]
      have hlen : (if ex then h else h.set b none).length = h.length := by cases ex <;> simp
      refine ⟨_, _, rfl, Own.new (by rw [hlen]; exact hk) hyz false _, ?_, fun c hc hne => ?_, .inr (by simp [V.blk, hlen]), by simp [hlen]⟩
      · cases ex with
        | true => exact Frm.append hk _
        | false => exact (Frm.set hk hb none).trans (Frm.append (by simp; exact hk) _)
      · rw [hget_old (by rw [hlen]; exact hc)]
        cases ex with
        | true => rfl
        | false => exact hget_set_ne (fun e => hne (by rw [e]; rfl)) _

/-- What reads the same in whatever heap. -/
def Fz (es : Nat) (v : V) (n : Nat) (ys : List V) : Prop := ∀ h, Sl h es v n ys

theorem Fz.low {es : Nat} {v : V} {n : Nat} {ys : List V} (H : Fz es v n ys) (hl : ∀ y ∈ ys, Low 0 y) : Low 0 v := by
  have := H []
  rcases this.shape with ⟨rfl, _, _⟩ | ⟨b, off, cap, ex, ag, cs, ty, rfl, hg, _, _⟩ | ⟨ex, xs, rfl, rfl, rfl, h3⟩
  · exact .nsl
  · simp [hget] at hg
  · exact .lst _ _ hl

theorem Low.mono {k k' : Nat} (hk : k ≤ k') {v : V} (h : Low k v) : Low k' v := by
  induction h with
  | bool b => exact .bool b
  | int j n => exact .int j n
  | str s => exact .str s
  | nptr => exact .nptr
  | ptr b o h => exact .ptr b o (by omega)
  | fp cs off _ ih => exact .fp cs off ih
  | nsl => exact .nsl
  | sl b off len cap ex es ag h => exact .sl b off len cap ex es ag (by omega)
  | lst ex xs _ ih => exact .lst ex xs ih
  | nmap => exact .nmap
  | map b h => exact .map b (by omega)
  | nfn => exact .nfn
  | fn f a b _ _ ih1 ih2 => exact .fn f a b ih1 ih2
  | ifc t v _ ih => exact .ifc t v ih
  | nifc => exact .nifc
  | agg cs _ ih => exact .agg cs ih
  | tup cs _ ih => exact .tup cs ih

theorem flat_chunk {es : Nat} {ag : Bool} {n : Nat} {l : List V} (hl : l.length = n * es) (hag : ag = false → es = 1) (h1 : ∀ x ∈ l, x.one = true) (h : Hp) : Sl h es (.lst false (chunk es ag n l)) n l := by
  obtain ⟨c1, c2, c3⟩ := chunk_spec es ag n l hl hag h1
  refine ⟨?_, rfl, trivial⟩
  simp only [src]
  rw [if_pos c3, c1, c2]

/-- An own slice of plain cells, frozen. -/
theorem Own.ice {h : Hp} {k es : Nat} {ag : Bool} {v : V} {n : Nat} {ys : List V} (H : Own h k es ag v n ys) (hag : ag = false → es = 1) (h1 : ∀ y ∈ ys, y.one = true) (hlow : ∀ y ∈ ys, Low 0 y) : ∃ v', Ice h k v v' ∧ Fz es v' n ys := by
  obtain ⟨hl, ⟨rfl, rfl⟩ | ⟨rfl, rfl⟩ | ⟨b, cap, ex, rest, ty, rfl, hb, hg, hc, hce⟩⟩ := H
  · have : ys = [] := List.eq_nil_of_length_eq_zero (by omega)
    subst this
    exact ⟨_, .low _ .nsl, fun h => ⟨rfl, rfl, trivial⟩⟩
  · have : ys = [] := List.eq_nil_of_length_eq_zero (by omega)
    subst this
    exact ⟨_, .low _ (.lst _ _ (by simp [flat])), fun h => ⟨by simp [src, flat], rfl, trivial⟩⟩
  · refine ⟨.lst false (chunk es ag n ys), .sl b 0 n cap ex es ag _ ty ys ys hb hg (by simp [sub, ← hl]) hag rfl (fun j x y hx hy => ?_) h1, fun h => flat_chunk hl hag h1 h⟩
    rw [hx] at hy; cases hy
    exact .low _ ((hlow _ (List.mem_of_getElem? hx)).mono (Nat.zero_le _))


theorem rep_length (z : List V) : ∀ m : Nat, ((List.replicate m z).flatten).length = m * z.length := by
  intro m; simp

/-- What slices.Delete does to a row. -/
theorem Own.del {h : Hp} {b n i j cap es bt : Nat} {ex ag : Bool} {ys rest z : List V} {ty : Option TypeId} (hl : ys.length = n * es) (hg : hget h b = some (.cells (ys ++ rest) ty)) (hij : i < j) (hj : j ≤ n) (hc : n ≤ cap) (hce : cap * es ≤ (ys ++ rest).length) (hz : z.length = es) :
    ∃ h1 t, appR h es bt ag none (.sl b 0 i cap ex es ag) (.sl b (j * es) (n - j) (cap - j) ex es ag) = some (.val (.sl b 0 (i + (n - j)) cap ex es ag) h1) ∧
      clrV h1 z (.sl b ((i + (n - j)) * es) (n - (i + (n - j))) (cap - (i + (n - j))) ex es ag) = some (.val (.tup []) (h.set b (some (.cells ((ys.take (i * es) ++ ys.drop (j * es)) ++ t) ty)))) ∧
      cap * es ≤ ((ys.take (i * es) ++ ys.drop (j * es)) ++ t).length := by
  have hbl := hget_lt hg
  have m1 : i * es ≤ j * es := Nat.mul_le_mul_right _ (by omega)
  have m2 : j * es ≤ n * es := Nat.mul_le_mul_right _ hj
  have m3 : n * es ≤ cap * es := Nat.mul_le_mul_right _ hc
  have m4 : (n - j) * es = n * es - j * es := Nat.sub_mul _ _ _
  have m5 : (i + (n - j)) * es = i * es + (n * es - j * es) := by rw [Nat.add_mul, m4]
  have m6 : (n - (i + (n - j))) * es = n * es - (i * es + (n * es - j * es)) := by rw [Nat.sub_mul, m5]
  rw [List.length_append] at hce
  have hsrc : src h es (.sl b (j * es) (n - j) (cap - j) ex es ag) = some (n - j, ys.drop (j * es)) := by
    simp only [src, if_true, rd, hg, sub]
    rw [if_pos (by rw [List.length_append]; omega), List.drop_append_of_le_length (by omega), List.take_append_of_le_length (by rw [List.length_drop]; omega), List.take_of_length_le (by rw [List.length_drop]; omega)]
    rfl
  have hdl : (ys.drop (j * es)).length = n * es - j * es := by rw [List.length_drop, hl]
  have hw1 := wr_own hg (o := 0 + i * es) (xs := ys.drop (j * es)) (by rw [List.length_append, hdl]; omega)
  have htk : (ys ++ rest).take (0 + i * es) = ys.take (i * es) := by rw [Nat.zero_add, List.take_append_of_le_length (by omega)]
  rw [htk] at hw1
  generalize ht : (ys ++ rest).drop (0 + i * es + (ys.drop (j * es)).length) = t1 at hw1
  have ht1 : t1.length = ys.length + rest.length - (i * es + (n * es - j * es)) := by rw [← ht, List.length_drop, List.length_append, hdl]; omega
  generalize hA : ys.take (i * es) ++ ys.drop (j * es) = A at *
  have hAl : A.length = i * es + (n * es - j * es) := by rw [← hA, List.length_append, List.length_take, hdl]; omega
  refine ⟨h.set b (some (.cells (A ++ t1) ty)), (List.replicate (n - (i + (n - j))) z).flatten ++ t1.drop (n * es - (i * es + (n * es - j * es))), ?_, ?_, ?_⟩
  · unfold appR
    rw [hsrc]
    simp only [appV]
    rw [if_neg (by simp), if_pos (by omega), hw1]
    rfl
  · have hg1 : hget (h.set b (some (.cells (A ++ t1) ty))) b = some (.cells (A ++ t1) ty) := hget_set hbl _
    have hrl : ((List.replicate (n - (i + (n - j))) z).flatten).length = n * es - (i * es + (n * es - j * es)) := by rw [rep_length, hz, m6]
    have hw2 := wr_own hg1 (o := (i + (n - j)) * es) (xs := (List.replicate (n - (i + (n - j))) z).flatten) (by rw [hrl, List.length_append, hAl, ht1, m5]; omega)
    simp only [clrV, hz, if_true]
    rw [if_neg (by omega), hw2]
    simp only [Option.map_some, List.set_set]
    have e1 : (A ++ t1).take ((i + (n - j)) * es) = A := by rw [m5, ← hAl, List.take_left']; rfl
    have e2 : (A ++ t1).drop ((i + (n - j)) * es + ((List.replicate (n - (i + (n - j))) z).flatten).length) = t1.drop (n * es - (i * es + (n * es - j * es))) := by
      rw [hrl, m5, ← hAl, List.drop_append, List.drop_eq_nil_of_le (by omega), List.nil_append]
      congr 1; omega
    rw [e1, e2, List.append_assoc]
  · have hrl : ((List.replicate (n - (i + (n - j))) z).flatten).length = n * es - (i * es + (n * es - j * es)) := by rw [rep_length, hz, m6]
    rw [List.length_append, List.length_append, hrl, List.length_drop, hAl, ht1]
    omega


theorem Fz.take {es : Nat} {v : V} {n : Nat} {ys : List V} (H : Fz es v n ys) {i : Nat} (hi : i ≤ n) : ∃ v', slcV es v 0 (some i) none = some v' ∧ Fz es v' i (ys.take (i * es)) := by
  rcases (H []).shape with ⟨rfl, rfl, rfl⟩ | ⟨b, off, cap, ex, ag, cs, ty, rfl, hg, _, _⟩ | ⟨ex, xs, rfl, rfl, rfl, h3⟩
  · have : i = 0 := by omega
    subst this
    exact ⟨.nsl, by simp [slcV], fun h => ⟨by simp [src], rfl, trivial⟩⟩
  · simp [hget] at hg
  · refine ⟨.lst (ex && i == xs.length) (xs.take i), by simp only [slcV, Option.getD_some]; rw [if_pos ⟨by omega, hi, h3⟩]; simp [upTo], fun h => ⟨?_, rfl, trivial⟩⟩
    have h4 : ∀ x ∈ xs.take i, x.cells.length = es := fun x hx => h3 x (List.mem_of_mem_take hx)
    have e : flat (xs.take i) = (flat xs).take (i * es) := by
      have hs : flat xs = flat (xs.take i) ++ flat (xs.drop i) := by unfold flat; rw [← List.flatMap_append, List.take_append_drop]
      have hl := flat_length h4
      rw [List.length_take, Nat.min_eq_left hi] at hl
      rw [hs, ← hl, List.take_left']; rfl
    simp only [src]
    rw [if_pos h4, e, List.length_take, Nat.min_eq_left hi]

theorem Fz.drop {es : Nat} {v : V} {n : Nat} {ys : List V} (H : Fz es v n ys) {i : Nat} (hi : i ≤ n) : ∃ v', slcV es v i none none = some v' ∧ Fz es v' (n - i) (ys.drop (i * es)) := by
  rcases (H []).shape with ⟨rfl, rfl, rfl⟩ | ⟨b, off, cap, ex, ag, cs, ty, rfl, hg, _, _⟩ | ⟨ex, xs, rfl, rfl, rfl, h3⟩
  · have : i = 0 := by omega
    subst this
    exact ⟨.nsl, by simp [slcV], fun h => ⟨by simp [src], rfl, trivial⟩⟩
  · simp [hget] at hg
  · refine ⟨.lst ex (xs.drop i), by simp only [slcV, Option.getD_none]; rw [if_pos ⟨hi, Nat.le_refl _, h3⟩]; simp [upTo], fun h => ⟨?_, rfl, trivial⟩⟩
    have h4 : ∀ x ∈ xs.drop i, x.cells.length = es := fun x hx => h3 x (List.mem_of_mem_drop hx)
    have h5 : ∀ x ∈ xs.take i, x.cells.length = es := fun x hx => h3 x (List.mem_of_mem_take hx)
    have e : flat (xs.drop i) = (flat xs).drop (i * es) := by
      have hs : flat xs = flat (xs.take i) ++ flat (xs.drop i) := by unfold flat; rw [← List.flatMap_append, List.take_append_drop]
      have hl := flat_length h5
      rw [List.length_take, Nat.min_eq_left hi] at hl
      rw [hs, ← hl, List.drop_left']; rfl
    simp only [src]
    rw [if_pos h4, e, List.length_drop]

theorem src_fz {es : Nat} {v : V} {n : Nat} {ys : List V} (H : Fz es v n ys) (h : Hp) : src h es v = some (n, ys) := (H h).1


/-! ### A row of bytes whose type is known: strings.Builder's buffer -/
def OwnT (h : Hp) (k : Nat) (T : TypeId) (v : V) (n : Nat) (ys : List V) : Prop :=
  ys.length = n ∧ ((v = .nsl ∧ n = 0) ∨
    ∃ b cap ex rest, v = .sl b 0 n cap ex 1 false ∧ 0 < n ∧ k ≤ b ∧ hget h b = some (.cells (ys ++ rest) (some T)) ∧ n ≤ cap ∧ cap ≤ (ys ++ rest).length)

theorem OwnT.sl {h : Hp} {k : Nat} {T : TypeId} {v : V} {n : Nat} {ys : List V} (H : OwnT h k T v n ys) : Sl h 1 v n ys := by
  obtain ⟨hl, ⟨rfl, rfl⟩ | ⟨b, cap, ex, rest, rfl, hn0, hb, hg, hc, hce⟩⟩ := H
  · have : ys = [] := List.eq_nil_of_length_eq_zero (by omega)
    subst this; exact ⟨rfl, rfl, trivial⟩
  · refine ⟨?_, rfl, hc⟩
    simp [src, rd, hg, sub, ← hl]

theorem OwnT.plain {h : Hp} {k : Nat} {T : TypeId} {v : V} {n : Nat} {ys : List V} (H : OwnT h k T v n ys) : v.cells = [v] ∧ v.one = true := by
  obtain ⟨hl, ⟨rfl, rfl⟩ | ⟨b, cap, ex, rest, rfl, hn0, hb, hg, hc, hce⟩⟩ := H <;> exact ⟨rfl, rfl⟩

theorem OwnT.keep {h h' : Hp} {k : Nat} {T : TypeId} {v : V} {n : Nat} {ys : List V} (H : OwnT h k T v n ys) (hh : ∀ b, v.blk = some b → hget h' b = hget h b) : OwnT h' k T v n ys := by
  obtain ⟨hl, ⟨rfl, rfl⟩ | ⟨b, cap, ex, rest, rfl, hn0, hb, hg, hc, hce⟩⟩ := H
  · exact ⟨hl, .inl ⟨rfl, rfl⟩⟩
  · exact ⟨hl, .inr ⟨b, cap, ex, rest, rfl, hn0, hb, by rw [hh b rfl]; exact hg, hc, hce⟩⟩

theorem OwnT.app {h : Hp} {k : Nat} {T : TypeId} {v a : V} {n m : Nat} {ys zs : List V} (hk : k ≤ h.length) (H : OwnT h k T v n ys) (ha : src h 1 a = some (m, zs)) (hz : zs.length = m) (hr : n + m ≤ room) :
    ∃ v' h', appR h 1 1 false (some T) v a = some (.val v' h') ∧ OwnT h' k T v' (n + m) (ys ++ zs) ∧ Frm k h h' ∧ (∀ c, c < h.length → v.blk ≠ some c → hget h' c = hget h c) ∧ (v'.blk = v.blk ∨ v'.blk = some h.length) ∧ h.length ≤ h'.length := by
  have hyz : (ys ++ zs).length = n + m := by rw [List.length_append, H.1, hz]
  unfold appR
  rw [ha]
  obtain ⟨hl, ⟨rfl, rfl⟩ | ⟨b, cap, ex, rest, rfl, hn0, hb, hg, hc, hce⟩⟩ := H
  · have hy0 : ys = [] := List.eq_nil_of_length_eq_zero (by omega)
    subst hy0
    simp only [appV]
    by_cases hm : m = 0
    · subst hm
      exact ⟨_, _, by rw [if_pos rfl], ⟨hyz, .inl ⟨rfl, rfl⟩⟩, Frm.refl hk, fun _ _ _ => rfl, .inl rfl, Nat.le_refl _⟩
    · rw [if_neg hm, if_pos (by omega)]
      refine ⟨_, _, rfl, ?_, Frm.append hk _, fun c hc _ => hget_old hc _, .inr rfl, by simp⟩
      exact ⟨hyz, .inr ⟨h.length, m, false, [], by simp, by omega, hk, by rw [hget_new]; simp, by omega, by simp [hz]⟩⟩
  · have hbl := hget_lt hg
    simp only [appV]
    rw [if_neg (by simp)]
    by_cases hin : n + m ≤ cap
    · rw [if_pos hin, Nat.zero_add, Nat.mul_one]
      have hle : n + zs.length ≤ (ys ++ rest).length := by omega
      rw [wr_own hg hle]
      refine ⟨_, _, rfl, ⟨hyz, .inr ⟨b, cap, ex, (ys ++ rest).drop (n + zs.length), rfl, by omega, hb, ?_, hin, ?_⟩⟩, Frm.set hk hb _, fun c _ hne => hget_set_ne (fun e => hne (by rw [e]; rfl)) _, .inl rfl, by simp⟩
      · rw [hget_set hbl]
        simp [← hl]
      · rw [List.length_append, List.length_drop, hyz, hz]
        rw [hz] at hle
        omega
    · rw [if_neg hin, if_pos (by omega), Nat.mul_one]
      have hrd : rd h (.ptr b 0) n = some ys := by simp [rd, hg, sub, ← hl]
      rw [hrd]
      have hty : appTy h ex b 0 (some T) = some T := by
        unfold appTy
        cases ex
        · simp [bty, hg]
        · rfl
      have hlen : (if ex then h else h.set b none).length = h.length := by cases ex <;> simp
      refine ⟨_, _, rfl, ?_, ?_, fun c hc hne => ?_, .inr (by simp [V.blk, hlen]), by simp [hlen]⟩
      · rw [hty]
        exact ⟨hyz, .inr ⟨(if ex then h else h.set b none).length, n + m, false, [], rfl, by omega, by rw [hlen]; exact hk, by rw [hget_new]; simp, Nat.le_refl _, by simp [hl, hz]⟩⟩
      · cases ex with
        | true => exact Frm.append hk _
        | false => exact (Frm.set hk hb none).trans (Frm.append (by simp; exact hk) _)
      · rw [hget_old (by rw [hlen]; exact hc)]
        cases ex with
        | true => rfl
        | false => exact hget_set_ne (fun e => hne (by rw [e]; rfl)) _

/-- A strings.Builder (T) in a block of the call's own, and its buffer (of bytes: U). -/
def Bld (h : Hp) (k : Nat) (T U : TypeId) (β n : Nat) (ys : List V) : Prop :=
  ∃ a buf, k ≤ β ∧ hget h β = some (.cells [a, buf] (some T)) ∧ (a = .nptr ∨ a = .ptr β 0) ∧ OwnT h k U buf n ys ∧ buf.blk ≠ some β ∧ (∀ b, buf.blk = some b → b < h.length)

def bytesV (s : List UInt8) : List V := s.map fun c => .int .u8 c.toNat
theorem bytesV_length (s : List UInt8) : (bytesV s).length = s.length := by simp [bytesV]
theorem bytesV_append (a b : List UInt8) : bytesV (a ++ b) = bytesV a ++ bytesV b := by simp [bytesV]
theorem bytesV_back (s : List UInt8) (f : V → UInt8) (hf : ∀ k n, f (.int k n) = UInt8.ofNat n.toNat) : (bytesV s).map f = s := by
  unfold bytesV
  rw [List.map_map]
  conv => rhs; rw [← List.map_id s]
  refine List.map_congr_left fun c _ => ?_
  simp [hf]
theorem bytesV_isByte (s : List UInt8) : ∀ c ∈ bytesV s, c.isByte = true := by
  intro c hc; obtain ⟨b, _, rfl⟩ := List.mem_map.1 hc; rfl
theorem bytesV_one (s : List UInt8) : ∀ c ∈ bytesV s, c.one = true := by
  intro c hc; obtain ⟨b, _, rfl⟩ := List.mem_map.1 hc; rfl
theorem bytesV_low (s : List UInt8) : ∀ c ∈ bytesV s, Low 0 c := by
  intro c hc; obtain ⟨b, _, rfl⟩ := List.mem_map.1 hc; exact .int _ _


theorem LowH.frm {k : Nat} {h h' : Hp} (H : LowH k h) (hf : Frm k h h') : LowH k h' := by
  intro β hβ b hg
  refine H β hβ b ?_
  have h1 : hget (h'.take k) β = hget (h.take k) β := by rw [hf.2]
  unfold hget at h1 hg ⊢
  rw [List.getElem?_take_of_lt hβ, List.getElem?_take_of_lt hβ] at h1
  rw [← h1]; exact hg

def Res.low : Res → Prop
  | .ret v => Low 0 v
  | .pan v => Low 0 v

/-- Behind a call that answers plain values the heap is as it was. -/
theorem ACalls.cut {x : X} {f : FuncId} {args : List V} {h : Hp} {P : Res → Prop} (H : ACalls x f args h fun r h' => P r ∧ Frm h.length h h') (hlow : LowH h.length h) (hr : ∀ r, P r → r.low) : ACalls x f args h fun r h' => P r ∧ h' = h := by
  refine H.ice fun r h' ⟨hp, hf⟩ => ⟨hf.1, hlow.frm hf, r, ?_, hp, by rw [hf.2]; simp⟩
  have := hr r hp
  cases r with
  | ret v => exact .low v (Low.mono (Nat.zero_le _) this)
  | pan v => exact .low v (Low.mono (Nat.zero_le _) this)

theorem low_str2 (s : List UInt8) (k : IntKind) (n : Int) : Low 0 (.tup [.str s, .int k n]) := .tup _ (by simp; exact ⟨.str s, .int k n⟩)

end Go.Vs
