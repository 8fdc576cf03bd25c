/- Calls on plain data, shown over the empty heap, hold over every heap. -/
import Derived.Test.YtpefpiccljohlaaZvOwn
namespace Go.Vs
open Go.RowKit

theorem VR.lift {E E' : Env} {x : V} {v : Value} (hv : VR E x v) (hl : Low 0 x) (hf : ∀ b o v, E.frz b o = some v → E'.frz b o = some v) : VR E' x v := by
  induction hv with
  | bool b => exact .bool b
  | int k n => exact .int k n
  | str s => exact .str s
  | nptr => exact .nptr
  | ptr β o a hn h =>
    cases hl with
    | ptr _ _ hb => omega
  | fp cs off b p vals h1 _ h3 ih =>
    cases hl with
    | fp _ _ hc => exact .fp cs off b p vals (fun j hj => hf _ _ _ (h1 j hj)) (fun j hj => ih j hj (hc _ (List.getElem_mem hj))) h3
  | nsl => exact .nsl
  | sl β off len cap ex es ag a cap' hn hle hc hex h =>
    cases hl with
    | sl _ _ _ _ _ _ _ hb => omega
  | lst ex xs es a b p cap vals hc hex hes ha h1 _ h3 ih =>
    cases hl with
    | lst _ _ hcs => exact .lst ex xs es a b p cap vals hc hex hes ha (fun j hj => hf _ _ _ (h1 j hj)) (fun j hj => ih j hj (hcs _ (List.getElem_mem hj))) h3
  | nmap => exact .nmap
  | map β r hn h =>
    cases hl with
    | map _ hb => omega
  | fn f first cap first' cap' hl1 hl2 _ _ ih1 ih2 =>
    cases hl with
    | fn _ _ _ g1 g2 => exact .fn f first cap first' cap' hl1 hl2 (fun j x v hx hv => ih1 j x v hx hv (g1 _ (List.mem_of_getElem? hx))) (fun j x v hx hv => ih2 j x v hx hv (g2 _ (List.mem_of_getElem? hx)))
  | nfn => exact .nfn
  | ifc t x v _ ih =>
    cases hl with
    | ifc _ _ g => exact .ifc t x v (ih g)
  | nifc => exact .nifc
  | agg cs vs hle _ h1 ih =>
    cases hl with
    | agg _ g => exact .agg cs vs hle (fun j x v hx hv => ih j x v hx hv (g _ (List.mem_of_getElem? hx))) h1
  | tup cs vs hle _ ih =>
    cases hl with
    | tup _ g => exact .tup cs vs hle (fun j x v hx hv => ih j x v hx hv (g _ (List.mem_of_getElem? hx)))

theorem VR.low0 {E : Env} {x : V} {v : Value} (hv : VR E x v) (h0 : E.n = 0) : Low 0 x := by
  induction hv with
  | bool b => exact .bool b
  | int k n => exact .int k n
  | str s => exact .str s
  | nptr => exact .nptr
  | ptr β o a hn h => omega
  | fp cs off b p vals h1 _ h3 ih =>
    refine .fp cs off fun c hc => ?_
    obtain ⟨j, hj, rfl⟩ := List.getElem_of_mem hc
    exact ih j hj
  | nsl => exact .nsl
  | sl β off len cap ex es ag a cap' hn hle hc hex h => omega
  | lst ex xs es a b p cap vals hc hex hes ha h1 _ h3 ih =>
    refine .lst ex xs fun c hc => ?_
    obtain ⟨j, hj, rfl⟩ := List.getElem_of_mem hc
    exact ih j hj
  | nmap => exact .nmap
  | map β r hn h => omega
  | fn f first cap first' cap' hl1 hl2 _ _ ih1 ih2 =>
    refine .fn f first cap (fun c hc => ?_) (fun c hc => ?_)
    · obtain ⟨j, hj, rfl⟩ := List.getElem_of_mem hc
      exact ih1 j _ _ (List.getElem?_eq_getElem hj) (Array.getElem?_eq_getElem (by omega))
    · obtain ⟨j, hj, rfl⟩ := List.getElem_of_mem hc
      exact ih2 j _ _ (List.getElem?_eq_getElem hj) (Array.getElem?_eq_getElem (by omega))
  | nfn => exact .nfn
  | ifc t x v _ ih => exact .ifc t x ih
  | nifc => exact .nifc
  | agg cs vs hle _ h1 ih =>
    refine .agg cs fun c hc => ?_
    obtain ⟨j, hj, rfl⟩ := List.getElem_of_mem hc
    exact ih j _ _ (List.getElem?_eq_getElem hj) (Array.getElem?_eq_getElem (by omega))
  | tup cs vs hle _ ih =>
    refine .tup cs fun c hc => ?_
    obtain ⟨j, hj, rfl⟩ := List.getElem_of_mem hc
    exact ih j _ _ (List.getElem?_eq_getElem hj) (Array.getElem?_eq_getElem (by omega))

/-- The package variables hold plain data. -/
def XLow (x : X) : Prop := ∀ g, ∀ c ∈ x.G g, Low 0 c

/-- A call on plain data. -/
def PCalls (x : X) (f : FuncId) (args : List V) (P : Res → Prop) : Prop := ACalls x f args [] fun r h' => P r ∧ h' = []

theorem PCalls.of {x : X} {f : FuncId} {args : List V} {P : Res → Prop} (H : ACalls x f args [] fun r _ => P r) (hr : ∀ r, P r → r.low) : PCalls x f args P :=
  ACalls.cut (h := []) (H.mono fun r h' hp => ⟨hp, Nat.zero_le _, rfl⟩) (LowH.zero _) hr

theorem PCalls.at {x : X} (hx : XLow x) {f : FuncId} {args : List V} {P : Res → Prop} (H : PCalls x f args P) (ha : ∀ a ∈ args, Low 0 a) (h : Hp) : ACalls x f args h fun r h' => P r ∧ h' = h := by
  refine ⟨H.1, fun w0 E w vs hs hg hv => ?_⟩
  let E1 : Env := { n := 0, mu := fun _ => none, frz := E.frz, old := fun b o => E.old b o ∨ ∃ β l, E.mu β = some l ∧ l.own b o }
  have hsr1 : SR w E1 [] w := by
    refine ⟨rfl, Below.refl _ _, hs.frz, fun β x hx => (by simp at hx), fun β l hm => (by cases hm), fun β β' l l' b o h1 => (by cases h1), fun β l b o hm => (by cases hm), fun b o ho => ?_⟩
    rcases ho with ho | ⟨β, l, hm, ho⟩
    · exact ⟨(hs.old b o ho).1, (hs.old b o ho).2.1, fun β l hm => (by cases hm)⟩
    · obtain ⟨y, hy⟩ := hs.non β l hm
      obtain ⟨l2, hm2, hr⟩ := hs.blk β y hy
      rw [hm] at hm2; cases hm2
      exact ⟨by rw [hr.own b o ho]; exact hr.lt, hs.dfr β l b o hm ho, fun β l hm => (by cases hm)⟩
  have hg1 : GR x E1 := fun g => (hg g).lift (.fp _ _ (hx g)) fun _ _ _ hf => hf
  have hv1 : VRs E1 args vs := ⟨hv.1, fun j y v hy hv' => (hv.2 j y v hy hv').lift (ha _ (List.mem_of_getElem? hy)) fun _ _ _ hf => hf⟩
  refine (H.2 w E1 w vs hsr1 hg1 hv1).mono ?_
  rintro e w' ⟨E', h', r, hE, hsr, hr, hP, rfl⟩
  have hn0 : E'.n = 0 := by have := hsr.len; simpa using this.symm
  let E2 : Env := { n := E.n, mu := E.mu, frz := E'.frz, old := E.old }
  have hle : Le E E2 := ⟨Nat.le_refl _, fun _ _ _ hm => hm, hE.frz, rfl⟩
  have hlift : ∀ {x : V} {v : Value}, VR E' x v → VR E2 x v := fun h => h.lift (h.low0 hn0) fun _ _ _ hf => hf
  refine ⟨E2, h, r, hle, ?_, ?_, hP, rfl⟩
  · refine ⟨hs.len, hs.below.trans (hsr.below.mono hs.below.size), hsr.frz, fun β y hy => ?_, hs.non, hs.dis, fun β l b o hm ho => ?_, fun b o ho => ?_⟩
    · obtain ⟨l, hl, hr⟩ := hs.blk β y hy
      exact ⟨l, hl, BR.mono hle hsr.below.size (hsr.below.block _ hr.lt).symm hr⟩
    · have : E'.old b o := by rw [hE.old]; exact .inr ⟨β, l, hm, ho⟩
      exact (hsr.old b o this).2.1
    · have : E'.old b o := by rw [hE.old]; exact .inl ho
      exact ⟨(hsr.old b o this).1, (hsr.old b o this).2.1, (hs.old b o ho).2.2⟩
  · cases r with
    | ret a =>
      cases e with
      | returned u => exact hlift hr
      | panicked l => exact hr.elim
      | outgrown => exact hr.elim
    | pan a =>
      cases e with
      | returned u => exact hr.elim
      | outgrown => exact hr.elim
      | panicked l =>
        obtain ⟨v, hv, rfl⟩ := hr
        exact ⟨v, hlift hv, rfl⟩
end Go.Vs
