/- Each instruction, as the machine runs it (8): append. -/
import Derived.Test.YtpefpiccljohlaaZvRun7
namespace Go.Vs
open Go.RowKit

section
variable {w0 w w' : World} {E : Env} {h : Hp} {x : X}

/-- Cells that nobody owns any more become a block. -/
theorem SR.adopt (H : SR w0 E h w) (l : Loc) (x : Blk) (hr : BR w0.heap.size (E.add l) w l x) (hd : ∀ β l' b o, E.mu β = some l' → l'.own b o → l.own b o → False) (hf : ∀ b o, l.own b o → E.frz b o = none) (hold : ∀ b o, l.own b o → ¬ E.old b o) :
    SR w0 (E.add l) (h ++ [some x]) w := by
  refine ⟨by simp [H.len, Env.add], H.below, H.frz, fun β y hy => ?_, fun β l' hm => ?_, fun β β' l1 l2 b o h1 h2 o1 o2 => ?_, fun β l' b o hm ho => ?_, fun b o ho => ⟨(H.old b o ho).1, (H.old b o ho).2.1, fun β l' hm ho' => ?_⟩⟩
  · by_cases hβ : β = E.n
    · subst hβ
      rw [List.getElem?_append_right (by rw [H.len]; exact Nat.le_refl _), H.len] at hy
      simp at hy
      subst hy
      exact ⟨l, by simp [Env.add], hr⟩
    · have hβ' : β < h.length := by
        rcases Nat.lt_or_ge β h.length with h' | h'
        · exact h'
        · rw [List.getElem?_eq_none (by rw [List.length_append, List.length_singleton]; rw [H.len] at h' ⊢; omega)] at hy; cases hy
      rw [List.getElem?_append_left hβ'] at hy
      obtain ⟨l', hl', hr'⟩ := H.blk β y hy
      exact ⟨l', by simp only [Env.add]; rw [if_neg hβ]; exact hl', hr'.mono (Le.add E l) (Nat.le_refl _) rfl⟩
  · simp only [Env.add] at hm
    by_cases hβ : β = E.n
    · subst hβ
      exact ⟨x, by rw [List.getElem?_append_right (by rw [H.len]; exact Nat.le_refl _), H.len]; simp⟩
    · rw [if_neg hβ] at hm
      obtain ⟨y, hy⟩ := H.non β l' hm
      exact ⟨y, by rw [List.getElem?_append_left (by have := H.mu_lt hm; rw [H.len]; exact this)]; exact hy⟩
  · simp only [Env.add] at h1 h2
    by_cases hβ : β = E.n
    · by_cases hβ' : β' = E.n
      · rw [hβ, hβ']
      · rw [if_pos hβ] at h1; rw [if_neg hβ'] at h2
        cases h1
        exact (hd β' l2 b o h2 o2 o1).elim
    · by_cases hβ' : β' = E.n
      · rw [if_neg hβ] at h1; rw [if_pos hβ'] at h2
        cases h2
        exact (hd β l1 b o h1 o1 o2).elim
      · rw [if_neg hβ] at h1; rw [if_neg hβ'] at h2
        exact H.dis β β' l1 l2 b o h1 h2 o1 o2
  · simp only [Env.add] at hm ⊢
    by_cases hβ : β = E.n
    · rw [if_pos hβ] at hm
      cases hm
      exact hf b o ho
    · rw [if_neg hβ] at hm
      exact H.dfr β l' b o hm ho
  · simp only [Env.add] at hm
    by_cases hβ : β = E.n
    · rw [if_pos hβ] at hm
      cases hm
      exact hold b o ho' ho
    · rw [if_neg hβ] at hm
      exact (H.old b o ho).2.2 β l' hm ho'

/-- Cells that a block owns are written; of the block nothing is told behind it. -/
theorem SR.dirty (H : SR w0 E h w) {β : Nat} {l : Loc} {cs : List V} {ty : Option TypeId} (hg : hget h β = some (.cells cs ty)) (hm : E.mu β = some l) (q : Nat) (vs : List Value) (ho : ∀ j, j < vs.length → l.own l.b (q + j)) :
    SR w0 (E.kill β) (h.set β none) (w.setCells l.b q vs) := by
  obtain ⟨l2, hm2, hb⟩ := H.live hg
  rw [hm] at hm2; cases hm2
  obtain ⟨hT, hB, hlt, hown, hcs⟩ := hb
  have hk := H.kill β
  have hout : ∀ b p, ¬ l.own b p → (w.setCells l.b q vs).cell? ⟨b, p, none⟩ = w.cell? ⟨b, p, none⟩ := fun b p hn => by
    refine World.cell?_setCells_out _ _ _ _ _ (fun h1 _ => ?_)
    simp only at h1 ⊢
    rcases Nat.lt_or_ge p q with h2 | h2
    · exact .inl h2
    · rcases Nat.lt_or_ge p (q + vs.length) with h3 | h3
      · have := ho (p - q) (by omega)
        rw [show q + (p - q) = p by omega, ← h1] at this
        exact absurd this hn
      · exact .inr h3
  refine ⟨hk.len, hk.below.trans (below_setCells _ _ hB _ _ _), fun b p v hf => ?_, fun γ y hy => ?_, hk.non, hk.dis, hk.dfr, fun b p ho => ⟨by rw [size_setCells]; exact (hk.old b p ho).1, (hk.old b p ho).2⟩⟩
  · rw [hout b p (fun hc => by have := H.dfr β l b p hm hc; have hf' : E.frz b p = some v := hf; rw [hf'] at this; cases this)]
    exact hk.frz b p v hf
  · obtain ⟨l', hm', hb'⟩ := hk.blk γ y hy
    have hm2 : E.mu γ = some l' ∧ γ ≠ β := by
      simp only [Env.kill] at hm'
      split at hm'
      · cases hm'
      · rename_i hne; exact ⟨hm', hne⟩
    have hno : ∀ b p, l'.own b p → ¬ l.own b p := fun b p h1 h2 => hm2.2 (H.dis γ β l' l b p hm2.1 hm h1 h2)
    refine ⟨l', hm', ?_⟩
    cases y with
    | cells cs' ty' =>
      obtain ⟨g0, g1, g2, g3, g4⟩ := hb'
      refine ⟨g0.mono fun s hs => by rw [shape_setCells]; exact hs, g1, by rw [size_setCells]; exact g2, fun b p ho' => ?_, fun j hj => ?_⟩
      · obtain ⟨e, h1, h2⟩ := g3 b p ho'
        exact ⟨e, by rw [hout b p (hno b p ho')]; exact h1, by rw [World.frozen?_setCells]; exact h2⟩
      · obtain ⟨h1, v, h2, h3, h4⟩ := g4 j hj
        exact ⟨h1, v, by rw [hout _ _ (hno _ _ h1)]; exact h2, h3, h4⟩
    | map es =>
      obtain ⟨g1, g0, g2, ms, clock, g3, g4⟩ := hb'
      refine ⟨g1, g0, g2, ms, clock, ?_, g4⟩
      cases vs with
      | nil => exact g3
      | cons v0 r0 =>
        rw [heap_setCells _ _ _ _ _ (fun e => ?_)]
        · exact g3
        · rw [e] at g3
          have h2 := (hown _ _ (ho 0 (by simp))).2.1
          unfold World.cell? at h2
          rw [g3] at h2
          simp at h2

theorem growBy_le (n : Nat) : ∀ (k c : Nat), c ≤ 2 * n + 256 → Builtin.growBy n k c ≤ 2 * n + 256
  | 0, c, h => h
  | k + 1, c, h => by
    simp only [Builtin.growBy]
    split
    · exact h
    · exact growBy_le n k _ (by omega)

theorem nextcap_le {n o : Nat} (h : o < n) : Builtin.nextslicecap n o ≤ 2 * n + 256 := by
  unfold Builtin.nextslicecap
  split
  · omega
  · split
    · omega
    · exact growBy_le n 4 o (by omega)

theorem zeroCells_size (z : Array Value) (n : Nat) : (Builtin.zeroCells z n).size = n * z.size := by simp [Builtin.zeroCells]

/-- What 'append' asks of its types. -/
structure AppT (P : Program) (t1 t2 : TypeId) (es bt : Nat) (e : TypeId) (i : TypeInfo) (z : Value) : Prop where
  u1 : P.underlying t1 = some (.slice e)
  u2 : P.underlying t2 = some .string ∨ ∃ e', P.underlying t2 = some (.slice e')
  info : P.info? e = some i
  size : i.size = es
  bytes : i.bytes = bt
  zero : i.zero = some z
  zsize : z.cells.size = es
  lo : 1 ≤ bt
  hi : bt ≤ 65536

set_option maxHeartbeats 1000000 in
/-- 'append' within the capacity. -/
theorem run_append_in {t1 t2 ty e : TypeId} {es bt : Nat} {i : TypeInfo} {z : Value} (T : AppT x.P t1 t2 es bt e i z) {base : Option Addr} {sLen sCap n : Nat} {xv : Value} {vs : List Value} (hl : (Builtin.lenOf xv).run x.P w = .ok n w)
    (hf : (Builtin.firstCells es n xv).run x.P w = .ok vs.toArray w) (hle : sLen + n ≤ sCap) (hst : ∀ a, base = some a → (storeCells (a.add (sLen * es)) vs).run x.P w = .ok () w') (hno : base = none → w' = w) :
    (Builtin.append_ #[t1, t2] ty #[.slice base sLen sCap, xv]).run x.P w = .ok (.slice base (sLen + n) sCap) w' := by
  have hi := T.info
  have hs := T.size
  cases base with
  | none =>
    have := hno rfl
    subst this
    rcases T.u2 with hd | ⟨e', hd⟩ <;> simp [Builtin.append_, run_underlying T.u1, run_underlying hd, sizeOf, typeInfo, hi, hs, hl, hle, hf]
  | some a =>
    have hst' := hst a rfl
    rcases T.u2 with hd | ⟨e', hd⟩ <;> simp [Builtin.append_, run_underlying T.u1, run_underlying hd, sizeOf, typeInfo, hi, hs, hl, hle, hf, hst']

set_option maxHeartbeats 1000000 in
/-- 'append' beyond the capacity. -/
theorem run_append_out {t1 t2 ty e : TypeId} {es bt : Nat} {i : TypeInfo} {z : Value} (T : AppT x.P t1 t2 es bt e i z) {base : Option Addr} {sLen sCap n : Nat} {xv : Value} {vs os : List Value} (hl : (Builtin.lenOf xv).run x.P w = .ok n w)
    (hf : (Builtin.firstCells es n xv).run x.P w.drew = .ok vs.toArray w.drew) (ho : (Builtin.firstCells es sLen (.slice base sLen sCap)).run x.P w.drew = .ok os.toArray w.drew) (hgt : sCap < sLen + n) (hroom : (sLen + n) * bt ≤ room) :
    (Builtin.append_ #[t1, t2] ty #[.slice base sLen sCap, xv]).run x.P w =
      .ok (.slice (some ⟨w.heap.size, 0, none⟩) (sLen + n) (grownCap w (sLen + n) sCap e)) (w.drew.alloc (.cells ((os ++ vs).toArray ++ Builtin.zeroCells z.cells (grownCap w (sLen + n) sCap e - (sLen + n))) e)) := by
  have hlo := T.lo
  have hhi := T.hi
  have hn : sLen + n ≤ room := Nat.le_trans (Nat.le_mul_of_pos_right _ T.lo) hroom
  have hcap := nextcap_le hgt
  have hb : ¬ (Builtin.nextslicecap (sLen + n) sCap * bt > 2 ^ 48) := by
    have h1 : Builtin.nextslicecap (sLen + n) sCap * bt ≤ (2 * (sLen + n) + 256) * bt := Nat.mul_le_mul_right _ hcap
    have h2 : (2 * (sLen + n) + 256) * bt = 2 * ((sLen + n) * bt) + 256 * bt := by rw [Nat.add_mul, Nat.mul_assoc]
    unfold room at hroom
    omega
  have hnle : ¬ (sLen + n ≤ sCap) := by omega
  have hi := T.info
  have hs := T.size
  have hz := T.zero
  have hb1 : ¬ (i.bytes = 0) := by rw [T.bytes]; omega
  have hb2 : ¬ (281474976710656 < Builtin.nextslicecap (sLen + n) sCap * i.bytes) := by rw [T.bytes]; exact hb
  rcases T.u2 with hd | ⟨e', hd⟩ <;> simp [Builtin.append_, run_underlying T.u1, run_underlying hd, sizeOf, typeInfo, zeroValue, hi, hs, hz, hl, hnle, hf, ho, hb1, hb2, Question.forced, newRow, grownCap] <;>
    (rw [← Array.append_assoc]; simp)

theorem Vals.append {l m : List V} {us vs : List Value} (h1 : Vals E l us) (h2 : Vals E m vs) : Vals E (l ++ m) (us ++ vs) := by
  refine ⟨by simp [h1.1, h2.1], fun j u hu => ?_⟩
  rcases Nat.lt_or_ge j us.length with hj | hj
  · rw [List.getElem?_append_left hj] at hu
    refine ⟨(h1.2 j u hu).1, fun y hy => (h1.2 j u hu).2 y ?_⟩
    rwa [List.getElem?_append_left (by rw [← h1.1]; exact hj)] at hy
  · rw [List.getElem?_append_right hj] at hu
    refine ⟨(h2.2 _ u hu).1, fun y hy => (h2.2 _ u hu).2 y ?_⟩
    rwa [List.getElem?_append_right (by rw [← h1.1]; exact hj), ← h1.1] at hy

/-- The new row of an append. -/
theorem app_new {t1 t2 ty e : TypeId} {es bt : Nat} {i : TypeInfo} {z : Value} {ag : Bool} {kt : Option TypeId} (hkt : ∀ T, kt = some T → T = e) (T : AppT x.P t1 t2 es bt e i z) {h' : Hp} {E' : Env} (H' : SR w0 E' h' w) (hE : Le E E') {base : Option Addr} {sLen sCap n : Nat} {xv : Value} {vs os : List Value} {ys old : List V}
    (hl : (Builtin.lenOf xv).run x.P w = .ok n w) (hf : (Builtin.firstCells es n xv).run x.P w.drew = .ok vs.toArray w.drew) (ho : (Builtin.firstCells es sLen (.slice base sLen sCap)).run x.P w.drew = .ok os.toArray w.drew)
    (hgt : sCap < sLen + n) (hroom : (sLen + n) * bt ≤ room) (hv : Vals E ys vs) (hov : Vals E old os) (hyl : ys.length = n * es) (hol : old.length = sLen * es) :
    ∃ u E'' w', Le E E'' ∧ (Builtin.append_ #[t1, t2] ty #[.slice base sLen sCap, xv]).run x.P w = .ok u w' ∧ VR E'' (.sl h'.length 0 (sLen + n) (sLen + n) false es ag) u ∧ SR w0 E'' (h' ++ [some (.cells (old ++ ys) kt)]) w' := by
  have hr := run_append_out (ty := ty) T hl hf ho hgt hroom
  have hcap := grownCap_ge w (sLen + n) sCap e
  generalize hG : grownCap w (sLen + n) sCap e = G at *
  have hHd := H'.drew
  have hsz : ((os ++ vs).toArray ++ Builtin.zeroCells z.cells (G - (sLen + n))).size = G * es := by
    rw [Array.size_append, zeroCells_size, T.zsize]
    simp only [List.size_toArray, List.length_append, hov.1, hv.1, hyl, hol]
    rw [Nat.sub_mul, Nat.add_mul]
    have : (sLen + n) * es ≤ G * es := Nat.mul_le_mul_right _ hcap
    rw [Nat.add_mul] at this
    omega
  refine ⟨_, _, _, hE.trans (Le.add E' (newLoc w.drew _)), hr, ?_, hHd.newCellsT (Made.alloc w.drew _ e) (TyR.alloc _ _ _ hkt) ((hov.append hv).mono hE) (fun j u hu => ?_)⟩
  · exact VR.newSl hHd (sLen + n) G (sLen + n) _ false es ag (Nat.le_refl _) hcap (by simp) (by rw [hsz]; exact Nat.le_refl _)
  · rw [Array.getElem?_append_left (by
      rcases Nat.lt_or_ge j (os ++ vs).length with h' | h'
      · simpa using h'
      · rw [List.getElem?_eq_none h'] at hu; cases hu)]
    simpa using hu

theorem does_app {t1 t2 ty e : TypeId} {es bt : Nat} {i : TypeInfo} {z : Value} {ag : Bool} {kt : Option TypeId} (hkt : ∀ T, kt = some T → T = e) (T : AppT x.P t1 t2 es bt e i z) (H : SR w0 E h w) {s a : V} {su au : Value} {n : Nat} {ys : List V} {rz : Rz} (hs : VR E s su) (ha : VR E a au)
    (hsrc : src h es a = some (n, ys)) (hap : appV h es bt ag kt s n ys = some rz) :
    Does x w0 E w ((do pure (.value (← Builtin.append_ #[t1, t2] ty #[su, au])) : Sem Next).run x.P w) (some rz) := by
  obtain ⟨hl, hyl, vs, hv, hf⟩ := src_spec (x := x) H ha hsrc
  obtain ⟨_, _, vs2, hv2, hf2⟩ := src_spec (x := x) H.drew ha hsrc
  have hf1 := hf n (Nat.le_refl _)
  have hf3 := hf2 n (Nat.le_refl _)
  rw [List.take_of_length_le (by rw [hv.1, hyl]; exact Nat.le_refl _)] at hf1
  rw [List.take_of_length_le (by rw [hv2.1, hyl]; exact Nat.le_refl _)] at hf3
  have fin : ∀ {u : Value} {w' : World} {E' : Env} {v : V} {h' : Hp}, Le E E' → (Builtin.append_ #[t1, t2] ty #[su, au]).run x.P w = .ok u w' → VR E' v u → SR w0 E' h' w' →
      Does x w0 E w ((do pure (.value (← Builtin.append_ #[t1, t2] ty #[su, au])) : Sem Next).run x.P w) (some (.val v h')) := fun hE hr hvr hsr =>
    ⟨_, _, _, hE, by simp only [Sem.run_bind, hr, Result.andThen_ok]; rfl, hvr, hsr⟩
  unfold appV at hap
  split at hap
  · -- nil
    cases hs
    split at hap
    · rename_i hn
      cases hap
      subst hn
      refine fin (Le.refl E) (run_append_in (ty := ty) T hl hf1 (Nat.le_refl _) (fun a h => by cases h) (fun _ => rfl)) .nsl H
    · split at hap
      · rename_i hn hroom
        cases hap
        obtain ⟨u, E', w', hE, hr, hvr, hsr⟩ := app_new (ty := ty) (ag := ag) hkt T H (Le.refl E) (base := none) (sLen := 0) (sCap := 0) (os := []) (old := []) hl hf3 (by simp [Builtin.firstCells]) (by omega) (by simpa using hroom) hv2 ⟨rfl, fun j u hu => by simp at hu⟩ hyl (by simp)
        simp only [Nat.zero_add, List.nil_append] at hvr hsr
        exact fin hE hr hvr hsr
      · cases hap
  · -- frozen
    rename_i ex xs
    split at hap
    · rename_i hn
      cases hap
      subst hn
      cases hs with
      | lst _ _ es' ad b p cap vals hc hex hes hne g1 g2 g3 =>
        have hvs : vs = [] := List.eq_nil_of_length_eq_zero (by rw [hv.1, hyl]; simp)
        subst hvs
        exact fin (Le.refl E) (run_append_in (ty := ty) (w' := w) T hl hf1 (by simpa using hc) (fun a _ => rfl) (fun _ => rfl)) (.lst ex xs es' ad b p cap vals hc hex hes hne g1 g2 g3) H
    · split at hap
      · rename_i hn hcond
        cases hap
        obtain ⟨hex', hall, hroom⟩ := hcond
        have hsl : src h es (.lst ex xs) = some (xs.length, flat xs) := by simp only [src]; rw [if_pos hall]
        obtain ⟨_, hxl, os, hov, hof⟩ := src_spec (x := x) H.drew hs hsl
        have hof1 := hof xs.length (Nat.le_refl _)
        rw [List.take_of_length_le (by rw [hov.1, hxl]; exact Nat.le_refl _)] at hof1
        cases hs with
        | lst _ _ es' ad b p cap vals hc hex hes hne g1 g2 g3 =>
          obtain ⟨u, E', w', hE, hr, hvr, hsr⟩ := app_new (ty := ty) (ag := ag) hkt T H (Le.refl E) (base := some ad) (sLen := xs.length) (sCap := cap) hl hf3 hof1 (by rw [hex hex']; omega) hroom hv2 hov hyl hxl
          exact fin hE hr hvr hsr
      · cases hap
  · -- live
    rename_i b off len cap ex es' ag'
    split at hap
    · cases hap
    · rename_i hsame
      have he : es' = es ∧ ag' = ag := by
        refine ⟨?_, ?_⟩
        · rcases Nat.decEq es' es with h | h
          · exact absurd (Or.inl h) hsame
          · exact h
        · by_cases h : ag' = ag
          · exact h
          · exact absurd (Or.inr h) hsame
      obtain ⟨rfl, rfl⟩ := he
      split at hap
      · rename_i hle
        simp only [Option.map_eq_some_iff] at hap
        obtain ⟨h', hw, rfl⟩ := hap
        obtain ⟨l, hm, hsr, hst⟩ := H.write (P := x.P) hw hv
        cases hs with
        | sl _ _ _ _ _ _ _ ad cap' hn hl' hc hex hh =>
          obtain ⟨q1, q2⟩ := hh l hm
          refine fin (Le.refl E) (run_append_in (ty := ty) T hl hf1 (by omega) (fun a hae => ?_) (fun h => by cases h)) (.sl _ _ _ _ _ _ _ _ _ hn hle hc hex hh) hsr
          cases hae
          rcases q1 with q1 | q1
          · have : vs = [] := List.eq_nil_of_length_eq_zero (by rw [hv.1, hyl]; have : n = 0 := by omega
                                                                rw [this]; simp)
            subst this
            rfl
          · rw [q1, Addr.add_none, Nat.add_assoc]; exact hst
      · rename_i hgt
        split at hap
        · rename_i hroom
          split at hap
          · rename_i old hold
            cases hap
            have hn0 : 0 < n := by
              cases hs with
              | sl _ _ _ _ _ _ _ ad cap' hn hl' hc hex hh => omega
            obtain ⟨cs, ty0, hg⟩ : ∃ cs ty0, hget h b = some (.cells cs ty0) := by
              simp only [rd] at hold
              split at hold
              · rename_i cs ty0 hg; exact ⟨cs, ty0, hg⟩
              · cases hold
            have hsub : sub cs off (len * es') = some old := by simp only [rd, hg] at hold; exact hold
            obtain ⟨l, hm, hb⟩ := H.live hg
            have hsl : src h es' (.sl b off len cap ex es' ag') = some (len, old) := by simp [src, hold]
            obtain ⟨_, hxl, os, hov, hof⟩ := src_spec (x := x) H.drew hs hsl
            have hof1 := hof len (Nat.le_refl _)
            rw [List.take_of_length_le (by rw [hov.1, hxl]; exact Nat.le_refl _)] at hof1
            cases hs with
            | sl _ _ _ _ _ _ _ ad cap' hn hl' hc hex hh =>
              obtain ⟨q1, q2⟩ := hh l hm
              by_cases hin : len + n ≤ cap'
              · -- the machine had room
                have hexf : ex = false := by
                  cases ex with
                  | false => rfl
                  | true => have := hex rfl; omega
                subst hexf
                have had : ad = ⟨l.b, l.base + off, none⟩ := q1.resolve_left (by omega)
                subst had
                have hown : ∀ j, j < vs.length → l.own l.b (l.base + off + len * es' + j) := fun j hj => by
                  have h1 : len * es' + j < cap' * es' := by
                    rw [hv.1, hyl] at hj
                    have : (len + n) * es' ≤ cap' * es' := Nat.mul_le_mul_right _ hin
                    rw [Nat.add_mul] at this
                    omega
                  have := q2 (len * es' + j) h1
                  rwa [show l.base + off + (len * es' + j) = l.base + off + len * es' + j by omega] at this
                have hd := H.dirty hg hm (l.base + off + len * es') vs hown
                obtain ⟨hT0, hB, hlt, hownc, hcs⟩ := hb
                have hst := run_storeCells_cells (P := x.P) l.b (l.base + off + len * es') vs 0 w (fun j hj => (hownc _ _ (hown j hj)).2.1) (fun j hj => (hownc _ _ (hown j hj)).2.2) (fun v hv' => by
                  obtain ⟨j, hj, rfl⟩ := List.getElem_of_mem hv'
                  exact (hv.2 j _ (List.getElem?_eq_getElem hj)).1)
                have hr := run_append_in (ty := ty) (base := some ⟨l.b, l.base + off, none⟩) T hl hf1 hin (fun a hae => by cases hae; rw [Addr.add_none]; exact hst) (fun h => by cases h)
                simp only [Nat.add_zero] at hr
                have hlen2 : (h.set b none).length = (E.kill b).n := hd.len
                let loc : Loc := ⟨l.b, l.base + off, l.own⟩
                have hlo : ∀ b' o, loc.own b' o → l.own b' o := fun b' o h1 => h1
                obtain ⟨os2, hrow⟩ := BR.row (l := l) (w := w) (B := w0.heap.size) (E := E) (ty := ty0) ⟨hT0, hB, hlt, hownc, hcs⟩ hsub
                have hsome : ∀ j, j < vs.length → (w.cell? ⟨l.b, l.base + off + len * es' + j, none⟩).isSome = true := fun j hj => (hownc _ _ (hown j hj)).2.1
                have hcell : ∀ (j : Nat) u, (os2 ++ vs)[j]? = some u → (w.setCells l.b (l.base + off + len * es') vs).cell? ⟨l.b, l.base + off + j, none⟩ = some u := fun j u hu => by
                  rcases Nat.lt_or_ge j os2.length with hj | hj
                  · rw [List.getElem?_append_left hj] at hu
                    rw [World.cell?_setCells_out _ _ _ _ _ (fun _ _ => .inl (by simp only; rw [hrow.1, hxl] at hj; omega))]
                    exact (hrow.2 j u hu).1
                  · rw [List.getElem?_append_right hj] at hu
                    have hj2 : j - os2.length < vs.length := (List.getElem?_eq_some_iff.1 hu).1
                    have := World.cell?_setCells_in l.b vs (l.base + off + len * es') w hsome (j - os2.length) hj2
                    rw [List.getElem?_eq_getElem hj2] at hu
                    cases hu
                    rw [← this]
                    congr 2
                    rw [hrow.1, hxl]
                    rw [hrow.1, hxl] at hj
                    omega
                have hvals : Vals ((E.kill b).add loc) (old ++ ys) (os2 ++ vs) := (hrow.vals.append hv).mono ((Le.kill E b).trans (Le.add _ _))
                have hsr : SR w0 ((E.kill b).add loc) (h.set b none ++ [some (.cells (old ++ ys) (appTy h false b off kt))]) (w.setCells l.b (l.base + off + len * es') vs) := by
                  refine hd.adopt loc (.cells (old ++ ys) (appTy h false b off kt)) ⟨fun T' hT' => ?_, hB, by rw [size_setCells]; exact hlt, fun b' o ho => ?_, fun j hj => ?_⟩ (fun β l' b' o hm' o1 o2 => ?_) (fun b' o ho => ?_) (fun b' o ho hod => (H.old b' o hod).2.2 b l hm (hlo b' o ho))
                  · simp only [appTy, Bool.false_eq_true, if_false] at hT'
                    split at hT'
                    · rename_i hc0
                      obtain ⟨ho0, hty0⟩ := hc0
                      simp only [bty, hg] at hty0
                      obtain ⟨h1, m, h2, h3⟩ := hT0 T' (hty0.trans hT')
                      exact ⟨by simp only [loc]; omega, m, by rw [shape_setCells]; exact h2, h3⟩
                    · cases hT'
                  · have h1 := hownc b' o (hlo b' o ho)
                    refine ⟨h1.1, ?_, by rw [World.frozen?_setCells]; exact h1.2.2⟩
                    have hbb := h1.1
                    subst hbb
                    by_cases hc2 : l.base + off + len * es' ≤ o ∧ o < l.base + off + len * es' + vs.length
                    · have := World.cell?_setCells_in l.b vs (l.base + off + len * es') w hsome (o - (l.base + off + len * es')) (by omega)
                      rw [show l.base + off + len * es' + (o - (l.base + off + len * es')) = o by omega] at this
                      rw [this]; rfl
                    · rw [World.cell?_setCells_out _ _ _ _ _ (fun _ _ => by simp only; omega)]; exact h1.2.1
                  · have hj2 : j < (os2 ++ vs).length := by rw [hvals.1]; exact hj
                    refine ⟨?_, (os2 ++ vs)[j], hcell j _ (List.getElem?_eq_getElem hj2), (hvals.2 j _ (List.getElem?_eq_getElem hj2)).2 _ (List.getElem?_eq_getElem hj), (hvals.2 j _ (List.getElem?_eq_getElem hj2)).1⟩
                    rw [List.length_append, hxl, hyl] at hj
                    have : (len + n) * es' ≤ cap' * es' := Nat.mul_le_mul_right _ hin
                    rw [Nat.add_mul] at this
                    exact q2 j (by omega)
                  · have hm2 : E.mu β = some l' ∧ β ≠ b := by
                      simp only [Env.kill] at hm'
                      split at hm'
                      · cases hm'
                      · rename_i hne; exact ⟨hm', hne⟩
                    exact hm2.2 (H.dis β b l' l b' o hm2.1 hm o1 (hlo b' o o2))
                  · exact H.dfr b l b' o hm (hlo b' o ho)
                refine fin ((Le.kill E b).trans (Le.add _ loc)) hr ?_ hsr
                have hbn : (h.set b none).length = h.length := by simp
                have hlt3 : h.length < ((E.kill b).add loc).n := by rw [← hbn, hlen2]; simp [Env.add]
                simp only [Bool.false_eq_true, if_false, hbn]
                exact .sl _ _ _ _ _ _ _ _ _ hlt3 (Nat.le_refl _) hin (by simp) fun l2 hl2 => by
                  have e1 : h.length = (E.kill b).n := by rw [← hbn]; exact hlen2
                  simp only [Env.add, e1, if_pos] at hl2
                  cases hl2
                  exact ⟨.inr (by simp [loc]), fun j hj => by simpa [loc] using q2 j hj⟩
              · -- the machine made a new row
                cases ex with
                | true =>
                  obtain ⟨u, E', w', hE, hr, hvr, hsr⟩ := app_new (ty := ty) (ag := ag') (kt := appTy h true b off kt) hkt T H (Le.refl E) (base := some ad) (sLen := len) (sCap := cap') hl hf3 hof1 (by omega) hroom hv2 hov hyl hxl
                  exact fin hE hr hvr hsr
                | false =>
                  have hk := H.kill b
                  obtain ⟨u, E', w', hE, hr, hvr, hsr⟩ := app_new (ty := ty) (ag := ag') (kt := appTy h false b off kt) (fun T' hT' => hkt T' (by simp only [appTy, Bool.false_eq_true, if_false] at hT'; split at hT'; exact hT'; cases hT')) T hk (Le.kill E b) (base := some ad) (sLen := len) (sCap := cap') hl hf3 hof1 (by omega) hroom hv2 hov hyl hxl
                  exact fin hE hr hvr hsr
          · cases hap
        · cases hap
  · cases hap
end
end Go.Vs
