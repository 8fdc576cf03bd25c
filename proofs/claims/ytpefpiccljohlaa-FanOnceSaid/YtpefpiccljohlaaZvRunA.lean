/- Each instruction, as the machine runs it (10): maps. -/
import Derived.Test.YtpefpiccljohlaaZvRun9
namespace Go.Vs
open Go.RowKit

section
variable {w0 w w' : World} {E : Env} {h : Hp} {x : X}

def setObjW (w : World) (r : Nat) (o : Obj) : World := { w with heap := w.heap.setIfInBounds r o }

theorem heap_setObj (w : World) (r k : Nat) (o : Obj) (hk : k ≠ r) : (setObjW w r o).heap[k]? = w.heap[k]? := by
  simp only [setObjW]
  rw [Array.getElem?_setIfInBounds_ne (Ne.symm hk)]

theorem SR.setMap (H : SR w0 E h w) {β : Nat} {es es' : List (V × V)} (hg : hget h β = some (.map es)) {l : Loc} (hm : E.mu β = some l) (ms : Array MapEntry) (clock : Nat) (hs : ms.size = es'.length)
    (hp : ∀ (j : Nat) e m, es'[j]? = some e → ms[j]? = some m → VR E e.1 m.key ∧ VR E e.2 m.val) : SR w0 E (h.set β (some (.map es'))) (setObjW w l.b (.map ms clock)) := by
  obtain ⟨l2, hm2, hb⟩ := H.blk β _ (hget_spec hg)
  rw [hm] at hm2; cases hm2
  obtain ⟨hB, h0, hown, ms0, c0, hheap, _, _⟩ := hb
  have hlt : l.b < w.heap.size := by
    rcases Nat.lt_or_ge l.b w.heap.size with h' | h'
    · exact h'
    · rw [Array.getElem?_eq_none h'] at hheap; cases hheap
  have hβ : β < h.length := by have := H.mu_lt hm; rw [H.len]; exact this
  have hnew : (setObjW w l.b (.map ms clock)).heap[l.b]? = some (.map ms clock) := by
    simp only [setObjW]
    rw [Array.getElem?_setIfInBounds_self_of_lt hlt]
  have hbel : Below w0.heap.size w (setObjW w l.b (.map ms clock)) := ⟨rfl, rfl, rfl, by simp [setObjW], fun k hk => heap_setObj w _ _ _ (by omega)⟩
  have hcell : ∀ b o v, w.cell? ⟨b, o, none⟩ = some v → b ≠ l.b := fun b o v hc e => by
    subst e
    unfold World.cell? at hc
    simp only [hheap] at hc
    cases hc
  refine ⟨by simp [H.len], H.below.trans hbel, fun b o v hf => ?_, fun γ y hy => ?_, fun γ l' hm' => ?_, H.dis, H.dfr, fun b o ho => ⟨Nat.lt_of_lt_of_le (H.old b o ho).1 hbel.size, (H.old b o ho).2⟩⟩
  · have hc := H.frz b o v hf
    have hne := hcell b o v hc
    rw [World.cell?_of_block (w := w) (heap_setObj w l.b b _ hne)]; exact hc
  · by_cases hγ : β = γ
    · subst hγ
      rw [List.getElem?_set_self hβ] at hy
      cases hy
      exact ⟨l, hm, hB, h0, hown, ms, clock, hnew, hs, hp⟩
    · rw [List.getElem?_set_ne hγ] at hy
      obtain ⟨l', hm', hb'⟩ := H.blk γ y hy
      refine ⟨l', hm', ?_⟩
      cases y with
      | cells cs ty =>
        obtain ⟨gT, g1, g2, g3, g4⟩ := hb'
        have hsame : ∀ b o, l'.own b o → (setObjW w l.b (.map ms clock)).heap[b]? = w.heap[b]? := fun b o ho => by
          refine heap_setObj w l.b b _ (fun e => ?_)
          obtain ⟨v, hv⟩ := Option.isSome_iff_exists.1 (g3 b o ho).2.1
          exact hcell b o v hv e
        refine ⟨gT.mono fun s hs => ?_, g1, by simp only [setObjW, Array.size_setIfInBounds]; exact g2, fun b o ho => ?_, fun j hj => ?_⟩
        · have hne : l'.b ≠ l.b := fun e => by
            rw [e] at hs
            unfold World.shape? at hs
            rw [hheap] at hs
            cases hs
          unfold World.shape? at hs ⊢
          rw [heap_setObj w _ _ _ hne]; exact hs
        · obtain ⟨e, h1, h2⟩ := g3 b o ho
          exact ⟨e, by rw [World.cell?_of_block (w := w) (hsame b o ho)]; exact h1, by rw [World.frozen?_of_block (w := w) (hsame b o ho)]; exact h2⟩
        · obtain ⟨h1, v, h2, h3, h4⟩ := g4 j hj
          exact ⟨h1, v, by rw [World.cell?_of_block (w := w) (hsame _ _ h1)]; exact h2, h3, h4⟩
      | map es2 =>
        obtain ⟨g1, g0, g2, ms2, c2, g3, g4⟩ := hb'
        have hne : l'.b ≠ l.b := fun e => hγ (H.dis β γ l l' l.b 0 hm hm' h0 (by rw [← e]; exact g0))
        exact ⟨g1, g0, g2, ms2, c2, by rw [heap_setObj w _ _ _ hne]; exact g3, g4⟩
  · by_cases hγ : β = γ
    · subst hγ; exact ⟨_, List.getElem?_set_self hβ⟩
    · rw [List.getElem?_set_ne hγ]; exact H.non γ l' hm'

/-- Keys of one kind, of one cell. -/
def keyQ (td : TypeDesc) (q : Q) : Bool := match td, q with
  | .int _, .num => true
  | .string, .str => true
  | .bool, .bool => true
  | _, _ => false

theorem sameNow_spec {td : TypeDesc} {q : Q} (hq : keyQ td q = true) {a b : V} {r : Bool} (hv : veq q a b = some r) {ua ub : Value} (ha : VR E a ua) (hb : VR E b ub) :
    Instr.sameNow td ua ub = some r ∧ (r = true → Instr.sameBits 10000 ub ua = true) := by
  unfold keyQ at hq
  split at hq
  · cases a <;> (try (simp [veq] at hv; done))
    cases b <;> (try (simp [veq] at hv; done))
    cases ha; cases hb
    rename_i j n k m
    simp only [veq] at hv
    split at hv
    · rename_i hk
      subst hk
      cases hv
      refine ⟨by simp [Instr.sameNow], fun h => ?_⟩
      simp at h
      simp [Instr.sameBits, h]
    · cases hv
  · cases a <;> (try (simp [veq] at hv; done))
    cases b <;> (try (simp [veq] at hv; done))
    cases ha; cases hb
    rename_i s t
    simp only [veq, Option.some.injEq] at hv
    subst hv
    refine ⟨by simp [Instr.sameNow, beq_toListBytes], fun h => ?_⟩
    simp at h
    subst h
    simp [Instr.sameBits, beq_toListBytes]
  · cases a <;> (try (simp [veq] at hv; done))
    cases b <;> (try (simp [veq] at hv; done))
    cases ha; cases hb
    simp only [veq, Option.some.injEq] at hv
    subst hv
    refine ⟨by simp [Instr.sameNow], fun h => ?_⟩
    simp at h
    subst h
    simp [Instr.sameBits]
  · cases hq

theorem findNow_spec {td : TypeDesc} {q : Q} (hq : keyQ td q = true) {k : V} {uk : Value} (hk : VR E k uk) : ∀ (es : List (V × V)) (ms : List MapEntry) (i : Nat) (r : Option V), ms.length = es.length →
    (∀ (j : Nat) e m, es[j]? = some e → ms[j]? = some m → VR E e.1 m.key ∧ VR E e.2 m.val) → findM q k es = some r →
    (∃ j e m, es[j]? = some e ∧ ms[j]? = some m ∧ Instr.findNow td uk ms i = some (some (i + j, m.val)) ∧ r = some e.2 ∧ (∀ v, putM q k v es = some (es.set j (k, v))) ∧ Instr.sameBits 10000 m.key uk = true) ∨
    (Instr.findNow td uk ms i = some none ∧ r = none ∧ ∀ v, putM q k v es = some (es ++ [(k, v)]))
  | [], [], i, r, _, _, hf => by
    simp only [findM, Option.some.injEq] at hf
    exact .inr ⟨rfl, hf.symm, fun v => rfl⟩
  | e :: es, m :: ms, i, r, hl, hp, hf => by
    simp only [findM] at hf
    have h0 := hp 0 e m rfl rfl
    split at hf
    · rename_i hv
      cases hf
      obtain ⟨h1, h2⟩ := sameNow_spec hq hv hk h0.1
      exact .inl ⟨0, e, m, rfl, rfl, by simp [Instr.findNow, h1], rfl, fun v => by simp [putM, hv], h2 rfl⟩
    · rename_i hv
      obtain ⟨h1, _⟩ := sameNow_spec hq hv hk h0.1
      rcases findNow_spec hq hk es ms (i + 1) r (by simpa using hl) (fun j e m he hm => hp (j + 1) e m (by simpa using he) (by simpa using hm)) hf with ⟨j, e', m', g1, g2, g3, g4, g5, g6⟩ | ⟨g1, g2, g3⟩
      · exact .inl ⟨j + 1, e', m', by simpa using g1, by simpa using g2, by simp [Instr.findNow, h1, g3]; omega, g4, fun v => by simp [putM, hv, g5], g6⟩
      · exact .inr ⟨by simp [Instr.findNow, h1, g1], g2, fun v => by simp [putM, hv, g3]⟩
    · cases hf
  | [], _ :: _, _, _, hl, _, _ => by simp at hl
  | _ :: _, [], _, _, hl, _, _ => by simp at hl

theorem run_checkKey {P : Program} {t : TypeId} {td : TypeDesc} {q : Q} (hu : P.underlying t = some td) (hq : keyQ td q = true) (b : Bool) (v : Value) : (Instr.checkKey b 10000 t v).run P w = .ok () w := by
  unfold Instr.checkKey
  simp only [Sem.run_bind, run_underlying hu, Result.andThen_ok]
  cases td <;> simp [keyQ] at hq <;> simp

theorem run_findKey {P : Program} {t : TypeId} {td : TypeDesc} {uk : Value} {ms : List MapEntry} {r : Option (Nat × Value)} (hu : P.underlying t = some td) (hf : Instr.findNow td uk ms 0 = some r) : (Instr.findKey t uk ms).run P w = .ok r w := by
  simp only [Instr.findKey, Sem.run_bind, run_underlying hu, Result.andThen_ok, hf]
  rfl

theorem does_look {t kt et : TypeId} {td : TypeDesc} {q : Q} {z : Value} {zv : V} {k : V} {uk mu : Value} {β : Nat} {es : List (V × V)} {r : Option V} {ok : Bool} (H : SR w0 E h w) (hu : x.P.underlying t = some (.map kt et)) (hk : x.P.underlying kt = some td) (hq : keyQ td q = true)
    (hz : tZero x.P et = some z) (hzc : ckV z zv = true) (hm : VR E (.map β) mu) (hg : hget h β = some (.map es)) (hvk : VR E k uk) (hf : findM q k es = some r) :
    Does x w0 E w ((do pure (.value (← Instr.lookup t mu uk ok)) : Sem Next).run x.P w) (some (.val (if ok then .tup [r.getD zv, .bool r.isSome] else r.getD zv) h)) := by
  obtain ⟨l, hml, hb⟩ := H.blk β _ (hget_spec hg)
  obtain ⟨hB, h0, hown, ms, clock, hheap, hsz, hpair⟩ := hb
  cases hm with
  | map _ r0 hn hh =>
    have hr0 := hh l hml
    subst hr0
    have hget : (getObj l.b).run x.P w = .ok (.map ms clock) w := by simp [getObj, Sem.run, hheap]
    have hzv : VR E zv z := ckV_spec hzc
    have hfs := findNow_spec hq hvk es ms.toList 0 r (by simpa using hsz) (fun j e m he hm => hpair j e m he (by simpa using hm)) hf
    have key : ∃ u ok', (Instr.lookup t (.map (some l.b)) uk ok).run x.P w = .ok (if ok then .tuple #[u, .bool ok'] else u) w ∧ VR E (r.getD zv) u ∧ ok' = r.isSome := by
      rcases hfs with ⟨j, e, m, g1, g2, g3, rfl, g5, g6⟩ | ⟨g1, rfl, g3⟩
      · refine ⟨m.val, true, ?_, (hpair j e m g1 (by simpa using g2)).2, rfl⟩
        simp only [Instr.lookup, Sem.run_bind, run_underlying hu, Result.andThen_ok, hget, Sem.run_pure, run_checkKey hk hq, run_findKey hk g3]
      · refine ⟨z, false, ?_, hzv, rfl⟩
        simp only [Instr.lookup, Sem.run_bind, run_underlying hu, Result.andThen_ok, hget, Sem.run_pure, run_checkKey hk hq, run_findKey hk g1, run_zero hz]
    obtain ⟨u, ok', hr, hvr, rfl⟩ := key
    refine Does.same H (by simp only [Sem.run_bind, hr, Result.andThen_ok]; rfl) ?_
    cases ok with
    | false => exact hvr
    | true =>
      refine .tup _ _ rfl (fun j y v hy hv => ?_)
      match j, hy, hv with
      | 0, hy, hv => simp at hy hv; subst hy; subst hv; exact hvr
      | 1, hy, hv => simp at hy hv; subst hy; subst hv; exact .bool _
      | j + 2, hy, hv => simp at hy

theorem does_look_nil {t kt et : TypeId} {td : TypeDesc} {q : Q} {z : Value} {zv : V} {uk : Value} {ok : Bool} (H : SR w0 E h w) (hu : x.P.underlying t = some (.map kt et)) (hk : x.P.underlying kt = some td) (hq : keyQ td q = true)
    (hz : tZero x.P et = some z) (hzc : ckV z zv = true) :
    Does x w0 E w ((do pure (.value (← Instr.lookup t (.map none) uk ok)) : Sem Next).run x.P w) (some (.val (if ok then .tup [zv, .bool false] else zv) h)) := by
  have hr : (Instr.lookup t (.map none) uk ok).run x.P w = .ok (if ok then .tuple #[z, .bool false] else z) w := by
    have hf : Instr.findNow td uk [] 0 = some none := rfl
    simp only [Instr.lookup, Sem.run_bind, run_underlying hu, Result.andThen_ok, Sem.run_pure, run_checkKey hk hq, run_findKey hk hf, run_zero hz]
  refine Does.same H (by simp only [Sem.run_bind, hr, Result.andThen_ok]; rfl) ?_
  cases ok with
  | false => exact ckV_spec hzc
  | true =>
    refine .tup _ _ rfl (fun j y v hy hv => ?_)
    match j, hy, hv with
    | 0, hy, hv => simp at hy hv; subst hy; subst hv; exact ckV_spec hzc
    | 1, hy, hv => simp at hy hv; subst hy; subst hv; exact .bool _
    | j + 2, hy, hv => simp at hy

theorem putM_findM {q : Q} {k v : V} : ∀ {es es' : List (V × V)}, putM q k v es = some es' → ∃ r, findM q k es = some r
  | [], _, _ => ⟨none, rfl⟩
  | e :: es, es', hp => by
    simp only [putM] at hp
    split at hp
    · rename_i hv; exact ⟨some e.2, by simp [findM, hv]⟩
    · rename_i hv
      simp only [Option.map_eq_some_iff] at hp
      obtain ⟨es2, h1, _⟩ := hp
      obtain ⟨r, hr⟩ := putM_findM h1
      exact ⟨r, by simp [findM, hv, hr]⟩
    · cases hp

theorem run_keyThatStays {P : Program} {a b : Value} (hs : Instr.sameBits 10000 a b = true) : (Instr.keyThatStays a b).run P w = .ok b w := by
  simp [Instr.keyThatStays, hs]

theorem does_upd {t kt et : TypeId} {td : TypeDesc} {q : Q} {k v : V} {uk uv mu : Value} {β : Nat} {es es' : List (V × V)} (H : SR w0 E h w) (hu : x.P.underlying t = some (.map kt et)) (hk : x.P.underlying kt = some td) (hq : keyQ td q = true)
    (hm : VR E (.map β) mu) (hg : hget h β = some (.map es)) (hvk : VR E k uk) (hvv : VR E v uv) (hp : putM q k v es = some es') :
    Does x w0 E w ((do Instr.mapUpdate t mu uk uv; pure Next.skip : Sem Next).run x.P w) (some (.skip (h.set β (some (.map es'))))) := by
  obtain ⟨l, hml, hb⟩ := H.blk β _ (hget_spec hg)
  obtain ⟨hB, h0, hown, ms, clock, hheap, hsz, hpair⟩ := hb
  cases hm with
  | map _ r0 hn hh =>
    have hr0 := hh l hml
    subst hr0
    have hget : (getObj l.b).run x.P w = .ok (.map ms clock) w := by simp [getObj, Sem.run, hheap]
    have hset : ∀ o, (setObj l.b o).run x.P w = .ok () (setObjW w l.b o) := fun o => by simp [setObj, Sem.run, hheap, setObjW]
    obtain ⟨r, hf⟩ := putM_findM hp
    have hfs := findNow_spec hq hvk es ms.toList 0 r (by simpa using hsz) (fun j e m he hm => hpair j e m he (by simpa using hm)) hf
    rcases hfs with ⟨j, e, m, g1, g2, g3, rfl, g5, g6⟩ | ⟨g1, rfl, g3⟩
    · have h5 := g5 v
      rw [hp] at h5
      cases h5
      have g2' : ms[j]? = some m := by simpa using g2
      refine ⟨E, setObjW w l.b (.map (ms.modify j fun e => { e with key := uk, val := uv }) clock), Le.refl E, ?_, H.setMap hg hml _ _ (by simp [hsz]) (fun i e' m' he' hm' => ?_)⟩
      · simp only [Nat.zero_add] at g3
        simp only [Instr.mapUpdate, Sem.run_bind, run_underlying hu, Result.andThen_ok, hget, run_checkKey hk hq, run_findKey hk g3, g2', Option.map_some, Option.getD_some, run_keyThatStays g6, hset]
        rfl
      · rw [Array.getElem?_modify] at hm'
        by_cases hij : j = i
        · subst hij
          rw [List.getElem?_set_self (List.getElem?_eq_some_iff.1 g1).1] at he'
          rw [if_pos rfl, g2'] at hm'
          cases he'; cases hm'
          exact ⟨hvk, hvv⟩
        · rw [List.getElem?_set_ne hij] at he'
          rw [if_neg hij] at hm'
          exact hpair i e' m' he' hm'
    · have h3 := g3 v
      rw [hp] at h3
      cases h3
      refine ⟨E, setObjW w l.b (.map (ms.push { key := uk, val := uv, born := clock }) (clock + 1)), Le.refl E, ?_, H.setMap hg hml _ _ (by simp [hsz]) (fun i e' m' he' hm' => ?_)⟩
      · simp only [Instr.mapUpdate, Sem.run_bind, run_underlying hu, Result.andThen_ok, hget, run_checkKey hk hq, run_findKey hk g1, hset]
        rfl
      · rw [Array.getElem?_push] at hm'
        by_cases hi : i = ms.size
        · subst hi
          rw [if_pos rfl] at hm'
          rw [hsz, List.getElem?_append_right (Nat.le_refl _)] at he'
          simp at he'
          cases he'; cases hm'
          exact ⟨hvk, hvv⟩
        · rw [if_neg hi] at hm'
          have hlt : i < es.length := by
            rw [← hsz]
            rcases Nat.lt_or_ge i ms.size with h' | h'
            · exact h'
            · rw [Array.getElem?_eq_none h'] at hm'; cases hm'
          rw [List.getElem?_append_left hlt] at he'
          exact hpair i e' m' he' hm'

theorem does_mkm {t : TypeId} (H : SR w0 E h w) :
    Does x w0 E w ((do pure (.value (← Instr.makeMap t none)) : Sem Next).run x.P w) (some (.val (.map h.length) (h ++ [some (.map [])]))) := by
  let l : Loc := ⟨w.heap.size, 0, fun b o => b = w.heap.size ∧ o = 0⟩
  refine ⟨.map (some w.heap.size), E.add l, w.alloc (.map #[] 0), Le.add _ _, by simp [Instr.makeMap], ?_, ?_⟩
  · exact .map _ _ (by rw [H.len]; simp [Env.add]) fun l' hl' => by
      simp only [Env.add, H.len, if_pos] at hl'
      cases hl'; rfl
  · refine H.new l (.map []) ((Below.refl _ _).alloc (Nat.le_refl _) _) rfl ⟨H.below.size, ⟨rfl, rfl⟩, fun b o ho => ho.1, #[], 0, ?_, rfl, fun j e m he => by simp at he⟩
    simp [l, World.alloc, -World.alloc_eq]
end
end Go.Vs
