/- Told code in a round of a loop over a function: as everywhere, where nothing is deferred. -/
import Derived.Test.YtfinnljkcgglfaaDoorZv4
import Derived.OrdersIn
import Derived.RangeFuncNested
import Derived.RangeFuncBound
import Derived.RangeFuncCalls
import Derived.RangeFuncLeaves
import Derived.TacticsInMore
import Derived.LoopNIn
import Derived.LoopIn
import Derived.Test.YtfinnljkcgglfaaDoorZv6
set_option linter.unusedSimpArgs false
set_option linter.unusedVariables false
namespace Go.Vs
open Go.RowKit
set_option linter.unusedSimpArgs false
set_option linter.unusedVariables false

/-- A round's fence. -/
abbrev rfence (l : Nat) : Fence := Fence.wide.inRound l

theorem callsIn_round {l n : Nat} {P : Program} {f : FuncId} {args : Array Value} {w : World} {R : Ending → World → Prop} (h : Calls P f args w R) : CallsIn (rfence l) n P f args w R :=
  ⟨trivial, fun cs _ => let ⟨e, w', fr, r, s, x⟩ := h cs; ⟨e, w', fr, r, by rw [fenced_inRound]; exact comesIn_wide.2 s, x⟩⟩

theorem rowsIn_round {l n : Nat} {P : Program} {row : String} {args : Array Value} {w : World} {R : Value → World → Prop} (h : Rows P row args w R) : RowsIn (rfence l) n P row args w R :=
  fun c cs _ => let ⟨v, w', r, s⟩ := h c cs; ⟨v, w', r, by rw [fenced_inRound]; exact stepsIn_wide.2 s⟩

/-- Nothing is deferred. -/
def noD (o : Oper) : Bool := match o.op with
  | .defer _ => false
  | _ => true
theorem noD_spec {o : Oper} (h : noD o = true) : ∀ c, o.op ≠ .defer c := fun c e => by simp [noD, e] at h

theorem oper_in {l n : Nat} {P : Program} {o : Oper} {a : Act} {w : World} {K : Act → World → Prop} {Q : Exit → Act → World → Prop} (hd : noD o = true) (h : o.wp P a w K Q) : o.wpIn (rfence l) n P a w K Q := by
  refine ⟨fun _ _ => trivial, ?_⟩
  rw [show (rfence l).round = some l from rfl, Oper.semAt_some l a.eval o (noD_spec hd)]
  unfold Oper.wp at h
  revert h
  generalize (execOp a.eval o).run P w = r
  intro h
  cases r with
  | ok v w' =>
    cases v with
    | value v => exact h
    | skip => exact h
    | defer d => exact h
    | enter f args => exact ⟨fun h => (by simp [Fence.wide, Fence.inRound] at h), callsIn_round h⟩
    | row r args => exact ⟨fun h => (by simp [Fence.wide, Fence.inRound] at h), rowsIn_round h⟩
    | _ => exact h.elim
  | halt x w' =>
    cases x <;> exact h

def noDs : Code → Bool
  | .region _ ops _ => ops.toList.all noD
  | .seq a b => noDs a && noDs b
  | .cond _ a b => noDs a && noDs b
  | .block _ c => noDs c
  | .loop _ => false
  | _ => true

theorem opIn {l n : Nat} {P : Program} {ops : Array Oper} {Q : Exit → Act → World → Prop} (hd : ops.toList.all noD = true) (hq : ¬ LetsOut Q) {K K' : Act → World → Prop} (hk : ∀ a w, K a w → K' a w) {i : Nat} {a : Act} {w : World}
    (h : wpOp P ops Q i K a w) : wpOpIn (rfence l) n P ops Q i K' a w := by
  unfold wpOp at h
  unfold wpOpIn
  split at h
  · rename_i he; rw [he]; exact hk _ _ h
  · rename_i o he
    rw [he]
    simp only
    split at h
    · rename_i hw
      rw [if_pos hw]
      rcases h with h | h
      · have hn : noD o = true := by
          have hm : o ∈ ops.toList := by
            have := Array.mem_of_getElem? he
            exact Array.mem_toList_iff.2 this
          exact List.all_eq_true.1 hd o hm
        exact Oper.wpIn_mono hk (oper_in hn h)
      · exact absurd h.2 hq
    · rename_i hw
      rw [if_neg hw]
      exact ⟨fun _ _ => trivial, hk _ _ h⟩

theorem opsIn {l n : Nat} {P : Program} {ops : Array Oper} {Q : Exit → Act → World → Prop} (hd : ops.toList.all noD = true) (hq : ¬ LetsOut Q) : ∀ (k : List Nat) (a : Act) (w : World), wpOps P ops Q k a w → wpOpsIn (rfence l) n P ops Q k a w
  | [], a, w, h => h
  | i :: r, a, w, h => by
    rw [wpOps_cons] at h
    rw [wpOpsIn_cons]
    exact opIn hd hq (fun a w => opsIn hd hq r a w) h

theorem anyIn {l n : Nat} {P : Program} {md : Region.Mode} {ops : Array Oper} {Q : Exit → Act → World → Prop} (hd : ops.toList.all noD = true) (hq : ¬ LetsOut Q) : ∀ (f : Nat) (L : Array Bool) (a : Act) (w : World), wpAny P md ops Q f L a w → wpAnyIn (rfence l) n P md ops Q f L a w
  | 0, L, a, w, h => h
  | f + 1, L, a, w, h => ⟨h.1, fun i hi => opIn hd hq (fun a w => anyIn hd hq f _ a w) (h.2 i hi)⟩

theorem lift_out {x : X} {w0 : World} {N : Nat} {E : Env} {Q : Ex → St → Prop} : ¬ LetsOut (Lift x w0 N E Q) := by
  rintro ⟨a, w, E', s, y, _, _, hy, _⟩
  cases y <;> exact hy

section
variable {x : X} {w0 : World} {N : Nat}

theorem vc_soundIn (hx : XOk x) {l0 n : Nat} : ∀ (c : Code) (d : C) (Q : Ex → St → Prop) (E0 E : Env) (s : St) (a : Act) (w : World), ckC x.P N c d = true → noDs c = true → Le E0 E → SRel x w0 N E s a w → vc x d Q s → c.wpIn (rfence l0) n x.P (Lift x w0 N E0 Q) a w := by
  intro c
  induction c with
  | skip =>
    intro d Q E0 E s a w hc hn hE H h
    cases d <;> (try exact False.elim h) <;> simp [ckC] at hc
    exact wpIn_skip (Lift.of hE H (y := .normal) trivial h)
  | region id ops draw =>
    intro d Q E0 E s a w hc hn hE H h
    cases draw with
    | false =>
      cases d <;> (try exact False.elim h) <;> simp [ckC] at hc
      refine wpIn_region (opsIn hn lift_out _ _ _ ?_)
      rw [show List.range ops.size = List.range' 0 ops.toList.length by rw [List.range_eq_range']; simp, wpOps_eq_wpList ops.toList 0 (fun j => by simp)]
      exact vops_sound hx _ _ E s a w hE hc H h
    | true =>
      cases d <;> (try exact False.elim h) <;> (try (simp [ckC] at hc; done))
      rename_i as d
      by_cases hlin : ∃ L l, d = .lin L l
      · obtain ⟨L, l, rfl⟩ := hlin
        simp only [ckC, Bool.and_eq_true] at hc
        obtain ⟨⟨h1, h2⟩, h3⟩ := hc
        refine wpIn_region_any h3 (anyIn hn lift_out _ _ _ _ ?_)
        exact lin_sound hx (fun i o b ho hb => ckAs_get h1 i o b (by simpa using ho) hb) h2 hE H.drew h
      have hc : ckAs x.P N ops ops.toList as = true ∧ ckD ops as ops.size (Array.replicate ops.size false) none d = true ∧ x.P.follows .mixedOrders = true := by
        cases d <;> first | exact (hlin ⟨_, _, rfl⟩).elim | (simp only [ckC, Bool.and_eq_true] at hc; exact ⟨hc.1.1, hc.1.2, hc.2⟩)
      obtain ⟨h1, h2, h3⟩ := hc
      refine wpIn_region_any h3 (anyIn hn lift_out _ _ _ _ ?_)
      exact vAny_sound hx (fun i o b ho hb => ckAs_get h1 i o b (by simpa using ho) hb) _ _ E s a _ hE H.drew ((vD_any _ _ _ s).1 h2 h)
  | seq p q ihp ihq =>
    intro d Q E0 E s a w hc hn hE H h
    cases d <;> (try exact False.elim h) <;> simp only [ckC, Bool.and_eq_true] at hc <;> try (cases hc; done)
    simp only [noDs, Bool.and_eq_true] at hn
    refine wpIn_seq (Code.wpIn_mono (fun e a' w' ⟨E', s', y, hE', H', hy, hq⟩ => ?_) (ihp _ _ E0 E s a w hc.1 hn.1 hE H h))
    cases y with
    | normal => cases e <;> first | exact hy.elim | exact ihq _ Q E0 E' s' a' w' hc.2 hn.2 hE' H' hq
    | _ => cases e <;> first | exact hy.elim | exact ⟨E', s', _, hE', H', hy, hq⟩
  | cond o p q ihp ihq =>
    intro d Q E0 E s a w hc hn hE H h
    cases d <;> (try exact False.elim h) <;> simp only [ckC, Bool.and_eq_true] at hc <;> try (cases hc; done)
    obtain ⟨⟨h1, h2⟩, h3⟩ := hc
    simp only [noDs, Bool.and_eq_true] at hn
    have hv := ckO_spec (x := x) H.gr H.tm h1
    simp only [vc] at h
    generalize hu : a.eval o = u at hv
    split at h
    · rename_i hb
      rw [hb] at hv
      cases hv
      exact wpIn_cond_true hu (ihp _ _ E0 E s a w h2 hn.1 hE H h)
    · rename_i hb
      rw [hb] at hv
      cases hv
      exact wpIn_cond_false hu (ihq _ _ E0 E s a w h3 hn.2 hE H h)
    · exact h.elim
  | block id p ih =>
    intro d Q E0 E s a w hc hn hE H h
    cases d <;> (try exact False.elim h) <;> simp only [ckC, Bool.and_eq_true, beq_iff_eq] at hc <;> try (cases hc; done)
    obtain ⟨rfl, hc⟩ := hc
    refine wpIn_block (Code.wpIn_mono (fun e a' w' ⟨E', s', y, hE', H', hy, hq⟩ => ?_) (ih _ _ E0 E s a w hc hn hE H h))
    cases y with
    | exit i =>
      cases e with
      | exit j =>
        have hij : i = j := hy
        subst hij
        simp only [Exit.inBlock]
        simp only at hq
        split at hq
        · rename_i hi; rw [if_pos hi]; exact ⟨E', s', .normal, hE', H', trivial, hq⟩
        · rename_i hi; rw [if_neg hi]; exact ⟨E', s', .exit i, hE', H', rfl, hq⟩
      | _ => exact hy.elim
    | _ => cases e <;> first | exact hy.elim | exact ⟨E', s', _, hE', H', hy, hq⟩
  | exit id =>
    intro d Q E0 E s a w hc hn hE H h
    cases d <;> (try exact False.elim h) <;> simp [ckC] at hc
    subst hc
    exact wpIn_exit (Lift.of hE H (y := .exit _) rfl h)
  | ret =>
    intro d Q E0 E s a w hc hn hE H h
    cases d <;> (try exact False.elim h) <;> simp [ckC] at hc
    exact wpIn_ret (Lift.of hE H (y := .ret) trivial h)
  | _ => intro d Q E0 E s a w hc hn hE H h; cases d <;> first | exact False.elim h | (simp [ckC] at hc; done) | (simp [noDs] at hn; done)
end
end Go.Vs
namespace Go.Vs
open Go.RowKit
set_option linter.unusedSimpArgs false
set_option linter.unusedVariables false

def Env.hide (E : Env) (k : Nat → Option Obj) (q : Nat → Nat → Prop) : Env := { E with hid := k, old := q }

theorem VR.hide {E : Env} (k : Nat → Option Obj) (q : Nat → Nat → Prop) {x : V} {v : Value} (h : VR E x v) : VR (E.hide k q) x v := by
  induction h with
  | bool b => exact .bool b
  | int k n => exact .int k n
  | str s => exact .str s
  | nptr => exact .nptr
  | ptr β o a hn h => exact .ptr β o a hn h
  | fp cs off b p vals h1 _ h3 ih => exact .fp cs off b p vals h1 ih h3
  | nsl => exact .nsl
  | sl β off len cap ex es ag a cap' hn hl hc hex h => exact .sl β off len cap ex es ag a cap' hn hl hc hex h
  | lst ex xs es a b p cap vals hc hex hes ha h1 _ h3 ih => exact .lst ex xs es a b p cap vals hc hex hes ha h1 ih h3
  | nmap => exact .nmap
  | map β r hn h => exact .map β r hn h
  | fn f first cap first' cap' hl hc _ _ ih1 ih2 => exact .fn f first cap first' cap' hl hc ih1 ih2
  | nfn => exact .nfn
  | ifc t x v _ ih => exact .ifc t x v ih
  | nifc => exact .nifc
  | agg cs vs hl _ h1 ih => exact .agg cs vs hl ih h1
  | tup cs vs hl _ ih => exact .tup cs vs hl ih
theorem GR.hide {x : X} {E : Env} (k : Nat → Option Obj) (q : Nat → Nat → Prop) (h : GR x E) : GR x (E.hide k q) := fun g => (h g).hide k q
theorem BR.hide {B : Nat} {E : Env} {w : World} {l : Loc} {x : Blk} (k : Nat → Option Obj) (q : Nat → Nat → Prop) (h : BR B E w l x) : BR B (E.hide k q) w l x := by
  cases x with
  | cells cs ty =>
    obtain ⟨h0, h1, h2, h3, h4⟩ := h
    exact ⟨h0, h1, h2, h3, fun j hj => by obtain ⟨a, v, b, c, d⟩ := h4 j hj; exact ⟨a, v, b, c.hide k q, d⟩⟩
  | map es =>
    obtain ⟨h1, h0, h2, ms, clock, h3, h4, h5⟩ := h
    exact ⟨h1, h0, h2, ms, clock, h3, h4, fun j e m he hm => ⟨(h5 j e m he hm).1.hide k q, (h5 j e m he hm).2.hide k q⟩⟩
theorem SR.hide {w0 w : World} {E : Env} {h : Hp} (H : SR w0 E h w) (k : Nat → Option Obj) (q : Nat → Nat → Prop)
    (hk : ∀ b o, k b = some o → w.heap[b]? = some o ∧ (∀ p, E.frz b p = none) ∧ ∀ β l, E.mu β = some l → l.b ≠ b)
    (hq : ∀ b o, q b o → b < w.heap.size ∧ E.frz b o = none ∧ ∀ β l, E.mu β = some l → ¬ l.own b o) : SR w0 (E.hide k q) h w where
  len := H.len
  below := H.below
  frz := H.frz
  blk β x hx := by obtain ⟨l, hl, hr⟩ := H.blk β x hx; exact ⟨l, hl, hr.hide k q⟩
  non := H.non
  dis := H.dis
  dfr := H.dfr
  old := hq
  hid := hk

theorem cell_isCells {w : World} {b o : Nat} {v : Value} (h : w.cell? ⟨b, o, none⟩ = some v) : ∃ ob : Obj, w.heap[b]? = some ob ∧ ob.isCells = true := by
  unfold World.cell? at h
  split at h
  · rename_i hb
    exact ⟨_, hb, rfl⟩
  · cases h

/-- Others turn what is no cells and lies beyond. -/
theorem SR.grown {w0 w w' : World} {E : Env} {h : Hp} (H : SR w0 E h w) {row : Option Nat} (hg : w.grownBy w' row) {B : Nat} (hr : ∀ r, row = some r → B ≤ r ∧ ∃ o : Obj, w.heap[r]? = some o ∧ o.isCells = false)
    (hB : w0.heap.size ≤ B) (hm : ∀ β es l, h[β]? = some (some (.map es)) → E.mu β = some l → l.b < B) (hh : ∀ b o, E.hid b = some o → b < B) : SR w0 E h w' := by
  have hcell : ∀ b o v, w.cell? ⟨b, o, none⟩ = some v → w'.heap[b]? = w.heap[b]? := fun b o v hc => by
    obtain ⟨ob, h1, h2⟩ := cell_isCells hc
    refine hg.block b (Array.getElem?_eq_some_iff.1 h1).1 fun e => ?_
    obtain ⟨_, o', h3, h4⟩ := hr b e.symm
    rw [h1] at h3; cases h3
    rw [h2] at h4; cases h4
  have hlt : ∀ b, b < B → b < w.heap.size → w'.heap[b]? = w.heap[b]? := fun b hb hs => hg.block b hs fun e => by
    have := (hr b e.symm).1
    omega
  refine ⟨H.len, H.below.trans ⟨?_, ?_, ?_, hg.size, fun k hk => ?_⟩, fun b o v hf => ?_, fun β x hx => ?_, H.non, H.dis, H.dfr, fun b o ho => ⟨Nat.lt_of_lt_of_le (H.old b o ho).1 hg.size, (H.old b o ho).2⟩, fun b o ho => ⟨?_, (H.hid b o ho).2⟩⟩
  · exact hg.1
  · exact hg.2
  · exact hg.3
  · rcases Nat.lt_or_ge k w.heap.size with h' | h'
    · exact hlt k (Nat.lt_of_lt_of_le hk hB) h'
    · have := H.below.size; omega
  · have hc := H.frz b o v hf
    rw [World.cell?_of_block (w := w) (hcell b o v hc)]; exact hc
  · obtain ⟨l, hl, hbr⟩ := H.blk β x hx
    refine ⟨l, hl, ?_⟩
    cases x with
    | map es => exact hbr.mono (Le.refl E) hg.size (hlt l.b (hm β es l hx hl) hbr.lt).symm
    | cells cs ty =>
      by_cases he : w.heap[l.b]? = w'.heap[l.b]?
      · exact hbr.mono (Le.refl E) hg.size he
      · obtain ⟨h0, h1, h2, h3, h4⟩ := hbr
        have hno : ∀ b o, ¬ l.own b o := fun b o ho => by
          obtain ⟨rfl, hc, _⟩ := h3 b o ho
          obtain ⟨v, hv⟩ := Option.isSome_iff_exists.1 hc
          exact he (hcell _ _ _ hv).symm
        refine ⟨fun T hT => ?_, h1, Nat.lt_of_lt_of_le h2 hg.size, fun b o ho => absurd ho (hno b o), fun j hj => absurd (h4 j hj).1 (hno _ _)⟩
        obtain ⟨_, m, hs, _⟩ := h0 T hT
        unfold World.shape? at hs
        split at hs
        · rename_i c elem f hb
          refine absurd ?_ he
          refine (hg.block l.b (Array.getElem?_eq_some_iff.1 hb).1 fun e => ?_).symm
          obtain ⟨_, o', h3', h4'⟩ := hr l.b e.symm
          rw [hb] at h3'; cases h3'
          cases h4'
        · cases hs
  · have := hh b o ho
    have hl := H.hid_lt ho
    rw [hlt b this hl]
    exact (H.hid b o ho).1

def full : Blk → Bool
  | .cells (_ :: _) _ => true
  | _ => false
/-- What was made since is cells. -/
def FullFrom (n0 : Nat) (h : Hp) : Prop := ∀ β b, n0 ≤ β → h[β]? = some (some b) → full b = true

/-- In a round: what is no cells and lies beyond is hidden. -/
def maskK (E : Env) (B : Nat) (W : World) : Nat → Option Obj := fun b => if b < B then E.hid b else match W.heap[b]? with
  | some o => if o.isCells = true then none else some o
  | none => none
/-- .. and that the heap is that long. -/
def maskQ (E : Env) (W : World) (z : Nat) : Nat → Nat → Prop := fun b o => E.old b o ∨ (b + 1 = W.heap.size ∧ o = z)

section
variable {w0 Ws W : World} {E0 E : Env} {h0 h : Hp}

theorem mu_at (hs0 : SR w0 E0 h0 Ws) (hE : Le E0 E) (H : SR w0 E h W) (hf : FullFrom h0.length h) {β : Nat} {l : Loc} (hm : E.mu β = some l) : l.b < Ws.heap.size ∨ ∃ o : Obj, W.heap[l.b]? = some o ∧ o.isCells = true := by
  rcases Nat.lt_or_ge β h0.length with hb | hb
  · left
    have hm0 := hE.mu β l (by rw [← hs0.len]; exact hb) hm
    obtain ⟨x, hx⟩ := hs0.non β l hm0
    obtain ⟨l', hl', hr⟩ := hs0.blk β x hx
    rw [hm0] at hl'; cases hl'
    exact hr.lt
  · right
    obtain ⟨x, hx⟩ := H.non β l hm
    obtain ⟨l', hl', hr⟩ := H.blk β x hx
    rw [hm] at hl'; cases hl'
    have hfu := hf β x hb hx
    cases x with
    | map es => simp [full] at hfu
    | cells cs ty =>
      cases cs with
      | nil => simp [full] at hfu
      | cons c r =>
        obtain ⟨_, v, hc, _⟩ := hr.2.2.2.2 0 (by simp)
        exact cell_isCells hc

theorem mask_ok (hs0 : SR w0 E0 h0 Ws) (hE : Le E0 E) (H : SR w0 E h W) (hf : FullFrom h0.length h) (hB : Ws.heap.size < W.heap.size) :
    ∃ z, SR w0 (E.hide (maskK E Ws.heap.size W) (maskQ E W z)) h W := by
  obtain ⟨z, hz⟩ : ∃ z, W.cell? ⟨W.heap.size - 1, z, none⟩ = none := by
    cases ho : W.heap[W.heap.size - 1]? with
    | none => exact ⟨0, by simp [World.cell?, ho]⟩
    | some o =>
      cases o with
      | cells c e f => exact ⟨c.size, by simp [World.cell?, ho]⟩
      | _ => exact ⟨0, by simp [World.cell?, ho]⟩
  refine ⟨z, H.hide _ _ (fun b o hb => ?_) (fun b o hb => ?_)⟩
  · unfold maskK at hb
    split at hb
    · exact H.hid b o hb
    · rename_i hlt
      split at hb
      · rename_i o' ho'
        split at hb
        · cases hb
        · rename_i hc
          cases hb
          refine ⟨ho', fun p => ?_, fun β l hm e => ?_⟩
          · cases hfz : E.frz b p with
            | none => rfl
            | some v =>
              obtain ⟨ob, h1, h2⟩ := cell_isCells (H.frz b p v hfz)
              rw [ho'] at h1; cases h1
              exact absurd h2 hc
          · rcases mu_at hs0 hE H hf hm with h1 | ⟨ob, h1, h2⟩
            · omega
            · rw [e, ho'] at h1; cases h1
              exact hc h2
      · cases hb
  · rcases hb with hb | ⟨hb, rfl⟩
    · exact H.old b o hb
    · have e : b = W.heap.size - 1 := by omega
      subst e
      refine ⟨by omega, ?_, fun β l hm ho => ?_⟩
      · cases hfz : E.frz (W.heap.size - 1) o with
        | none => rfl
        | some v => have := H.frz _ _ _ hfz; rw [hz] at this; cases this
      · obtain ⟨x, hx⟩ := H.non β l hm
        obtain ⟨l', hl', hr⟩ := H.blk β x hx
        rw [hm] at hl'; cases hl'
        have eb := hr.own _ _ ho
        cases x with
        | cells cs ty =>
          have := (hr.2.2.2.1 _ _ ho).2.1
          rw [hz] at this; cases this
        | map es =>
          rcases mu_at hs0 hE H hf hm with h1 | ⟨ob, h1, h2⟩
          · omega
          · obtain ⟨_, _, _, ms, clock, h3, _⟩ := hr
            rw [h3] at h1; cases h1
            cases h2

/-- What a round leaves. -/
theorem unmask {W' : World} {E' : Env} {h' : Hp} {z : Nat} (hs0 : SR w0 E0 h0 Ws) (hE : Le E0 E) (hB : Ws.heap.size < W.heap.size) (hE' : Le (E.hide (maskK E Ws.heap.size W) (maskQ E W z)) E') (H' : SR w0 E' h' W') :
    KeepsFrom Ws.heap.size W W' ∧ Le E (E'.hide E.hid E.old) ∧ SR w0 (E'.hide E.hid E.old) h' W' := by
  refine ⟨⟨?_, fun k o hk ho hc => ?_⟩, ⟨hE'.n, hE'.mu, hE'.frz, rfl, rfl⟩, H'.hide _ _ (fun b o hb => ?_) (fun b o hb => ?_)⟩
  · have := (H'.old (W.heap.size - 1) z (by rw [hE'.old]; exact .inr ⟨by omega, rfl⟩)).1
    omega
  · refine (H'.hid k o ?_).1
    rw [hE'.hid]
    show maskK E Ws.heap.size W k = some o
    unfold maskK
    rw [if_neg (by omega), ho]
    simp [hc]
  · refine H'.hid b o ?_
    rw [hE'.hid]
    show maskK E Ws.heap.size W b = some o
    unfold maskK
    rw [if_pos (by rw [hE.hid] at hb; exact hs0.hid_lt hb)]
    exact hb
  · exact H'.old b o (by rw [hE'.old]; exact .inl hb)
end

theorem getD_set {xs : Array Value} {n k : Nat} {u : Value} : (xs.setIfInBounds n u).getD k undef = if n = k ∧ n < xs.size then u else xs.getD k undef := by
  simp only [Array.getD_eq_getD_getElem?]
  by_cases h : n = k
  · subst h
    by_cases hn : n < xs.size
    · rw [Array.getElem?_setIfInBounds_self_of_lt hn]; simp [hn]
    · rw [if_neg (by omega), Array.setIfInBounds_eq_of_size_le (by omega)]
  · rw [Array.getElem?_setIfInBounds_ne h]; simp [h]

/-- How a round may leave, told. -/
def rfPost {α : Type} (n0 : Nat) (Inv : List α → Hp → Prop) (InvX : Nat → List α → Hp → Prop) (xs : List α) : Ex → St → Prop
  | .normal, s => ∃ h2, Fg s.h h2 ∧ FullFrom n0 h2 ∧ Inv xs h2
  | .exit id, s => ∃ h2, Fg s.h h2 ∧ FullFrom n0 h2 ∧ InvX id xs h2
  | _, _ => False

section
variable {x : X} {w0 : World} {N : Nat} {E : Env} {s : St} {a : Act} {w : World}

/-- Nobody speaks of that block. -/
def Lone (w0 : World) (E : Env) (D : Nat) : Prop := w0.heap.size ≤ D ∧ (∀ p, E.frz D p = none) ∧ (∀ β l, E.mu β = some l → l.b ≠ D) ∧ E.hid D = none
/-- Behind the loop. -/
def rfDone (w0 : World) (E : Env) (D : Nat) (R : Hp → Prop) (W : World) : Prop :=
  ∃ E' h', Le E E' ∧ SR w0 E' h' W ∧ Lone w0 E' D ∧ R h'
theorem rfDone.of {w w0 W : World} {E E' : Env} {h h' : Hp} {D : Nat} {R : Hp → Prop} (H : SR w0 E h w) (hD : w.heap.size ≤ D) (hK : W.heap[D]? = some (.deferred (some []))) (b1 : Le E E') (b2 : SR w0 E' h' W) (b3 : FullFrom h.length h') (b4 : R h') : rfDone w0 E D R W := by
  refine ⟨E', h', b1, b2, ⟨Nat.le_trans H.below.size hD, fun p => ?_, fun β l hm e => ?_, ?_⟩, b4⟩
  · cases hf : E'.frz D p with
    | none => rfl
    | some v =>
      obtain ⟨ob, h1, h2⟩ := cell_isCells (b2.frz D p v hf)
      rw [hK] at h1; cases h1
      cases h2
  · rcases mu_at H b1 b2 b3 hm with h1 | ⟨ob, h1, h2⟩
    · omega
    · rw [e, hK] at h1; cases h1
      cases h2
  · rw [b1.hid]
    cases hh : E.hid D with
    | none => rfl
    | some o => have := H.hid_lt hh; omega

theorem rf_wp (hx : XOk x) {α : Type} {g : Operand} {p t : Nat} {assign body : Code} {d : C} {n : Nat} (h1 : 1 ≤ n) (H : SRel x w0 N E s a w) (hp : p < N) (ht : t < N)
    {gf : Nat} {lb : Array Value} (hg : a.eval g = .func (.func gf) #[] lb) (eg : ∀ args w, (callFunc gf args).run x.P w = .ok (.enter gf args) w)
    {vl : α → Value} {X : α → V} (hX : ∀ e, VR E (X e) (vl e)) {S Sp : List α → Prop} {Nm : Nat}
    (hseq : SeqStopsK Fence.wide (n - 1) x.P gf lb (fun e => #[vl e]) (fun A B => ∀ b o v, E.frz b o = some v → A.cell? ⟨b, o, none⟩ = some v → B.cell? ⟨b, o, none⟩ = some v) S Sp Nm w)
    (hassign : ∀ (l : Nat) (v : Value) (tmps : Array Value) (W : World) (K : Act → World → Prop), tmps.getD p undef = v → K { tmps := tmps.setIfInBounds t v, defers := [] } W →
      assign.wpIn (rfence l) (n - 1 - 1) x.P (Exit.then K (fun _ _ _ => False)) { tmps, defers := [] } W)
    (hck : ckC x.P N body d = true) (hnd : noDs body = true) (hfull : FullFrom s.h.length s.h)
    (Inv : List α → Hp → Prop) (InvX : Nat → List α → Hp → Prop) (h0 : Inv [] s.h)
    (hbody : ∀ pre e h, Inv pre h → pre.length < Nm → vc x d (rfPost s.h.length Inv InvX (pre ++ [e])) { t := put (put s.t (some p) (X e)) (some t) (X e), h, d := [] }) :
    (Code.rangeFunc g #[p] assign body).wpIn Fence.wide n x.P (fun e a' W => ∃ D, a' = { a with defers := { target := .collected D, args := #[] } :: a.defers } ∧ W.heap[D]? = some (.deferred (some [])) ∧
      ((e = .normal ∧ ∃ xs, S xs ∧ rfDone w0 E D (Inv xs) W) ∨ ∃ id pre, e = .exit id ∧ Sp pre ∧ rfDone w0 E D (InvX id pre) W)) a w := by
  have hhid : ∀ {E' : Env}, Le E E' → ∀ b o, E'.hid b = some o → b < w.heap.size := fun hE b o hb => by rw [hE.hid] at hb; exact H.sr.hid_lt hb
  have hmap : ∀ {E' : Env} {h' : Hp}, Le E E' → FullFrom s.h.length h' → SR w0 E' h' w ∨ True → ∀ β es l, h'[β]? = some (some (.map es)) → E'.mu β = some l → l.b < w.heap.size := fun {E' h'} hE hf _ β es l hb hm => by
    rcases Nat.lt_or_ge β s.h.length with h' | h'
    · have hm0 := hE.mu β l (by rw [← H.sr.len]; exact h') hm
      obtain ⟨y, hy⟩ := H.sr.non β l hm0
      obtain ⟨l', hl', hr⟩ := H.sr.blk β y hy
      rw [hm0] at hl'; cases hl'
      exact hr.lt
    · have := hf β _ h' hb
      simp [full] at this
  have hown : ∀ {γ : Type} (R : γ → Hp → Prop), OwnFrom w.heap.size (fun (pre : γ) (W : World) => ∃ E' h', Le E E' ∧ SR w0 E' h' W ∧ FullFrom s.h.length h' ∧ R pre h') := fun R pre W W' row ⟨E', h', b1, b2, b3, b4⟩ hgr hr =>
    ⟨E', h', b1, b2.grown hgr hr H.sr.below.size (hmap b1 b3 (.inr trivial)) (hhid b1), b3, b4⟩
  refine wpIn_rangeFunc_ownH (F := Fence.wide) rfl h1 hg trivial eg hseq (fun {A B C} hab hbc b o v hf hv => hbc b o v hf (hab b o v hf hv)) ?_ (Below.refl _ _) (fun e => rfl)
    (fun pre W => ∃ E' h', Le E E' ∧ SR w0 E' h' W ∧ FullFrom s.h.length h' ∧ Inv pre h')
    (fun c pre W => ∃ id, c = .exit id ∧ ∃ E' h', Le E E' ∧ SR w0 E' h' W ∧ FullFrom s.h.length h' ∧ InvX id pre h')
    (hown Inv) (fun c pre W W' row ⟨id, hc, h⟩ hgr hr => ⟨id, hc, hown (InvX id) pre W W' row h hgr hr⟩) ⟨E, s.h, Le.refl E, H.sr, hfull, h0⟩
    (fun e a' _ => a' = { tmps := (a.tmps.setIfInBounds p (vl e)).setIfInBounds t (vl e), defers := [] }) (fun e a' _ W W' row ha _ _ => ha) ?_ ?_ ?_ ?_
  · intro W l o o' hl hlo hoc _ b o1 v hf hv
    have hne : l ≠ b := fun e => by
      subst e
      obtain ⟨ob, h3, h4⟩ := cell_isCells hv
      rw [hlo] at h3; cases h3
      rw [hoc] at h4; cases h4
    rw [World.cell?_of_block (w := W) (World.putObj_heap_other (fun e => hne e.symm))]
    exact hv
  · intro l pre e W K hI hK
    refine hassign l (vl e) _ W K ?_ (hK _ W (KeepsFrom.refl _ _) (fun _ _ _ _ h => h) hI ?_)
    · show ((#[p].zip #[vl e]).foldl (fun t (p, v) => t.setIfInBounds p v) a.tmps).getD p undef = vl e
      rw [show (#[p].zip #[vl e]).foldl (fun t (p, v) => t.setIfInBounds p v) a.tmps = a.tmps.setIfInBounds p (vl e) by simp]
      rw [getD_set, if_pos ⟨rfl, by rw [H.sz]; exact hp⟩]
    · simp
  · intro l pre e a' W hl ⟨r, hr⟩ ⟨E', h', b1, b2, b3, b4⟩ ha hlen
    subst ha
    have hB : w.heap.size < W.heap.size := Nat.lt_of_le_of_lt hl (Array.getElem?_eq_some_iff.1 hr).1
    obtain ⟨z, hz⟩ := mask_ok H.sr b1 b2 b3 hB
    have hS : SRel x w0 N (E'.hide (maskK E' w.heap.size W) (maskQ E' W z)) { t := put (put s.t (some p) (X e)) (some t) (X e), h := h', d := [] } { tmps := (a.tmps.setIfInBounds p (vl e)).setIfInBounds t (vl e), defers := [] } W := by
      refine ⟨hz, (H.gr.mono b1).hide _ _, fun k => ?_, by simp [H.sz], ⟨rfl, fun j d u hd => by simp at hd⟩⟩
      show VR _ (put (put s.t (some p) (X e)) (some t) (X e) k) _
      rw [getD_set, getD_set]
      have hk := ((H.tm k).mono b1).hide (maskK E' w.heap.size W) (maskQ E' W z)
      have he := ((hX e).mono b1).hide (maskK E' w.heap.size W) (maskQ E' W z)
      simp only [put, Array.size_setIfInBounds, H.sz, hp, ht, and_true]
      by_cases h3 : t = k
      · rw [if_pos h3, if_pos h3.symm]; exact he
      · rw [if_neg h3, if_neg (fun e => h3 e.symm)]
        by_cases h4 : p = k
        · rw [if_pos h4, if_pos h4.symm]; exact he
        · rw [if_neg h4, if_neg (fun e => h4 e.symm)]; exact hk
    refine Code.wpIn_mono (fun y a2 W2 ⟨E2, s2, y', c1, c2, c3, c4⟩ => ?_) (vc_soundIn hx body d _ _ _ _ _ W hck hnd (Le.refl _) hS (hbody pre e h' b4 hlen))
    obtain ⟨k1, k2, k3⟩ := unmask H.sr b1 hB c1 c2.sr
    have fin : ∀ {R : Hp → Prop}, (∃ h2, Fg s2.h h2 ∧ FullFrom s.h.length h2 ∧ R h2) → ∃ E' h', Le E E' ∧ SR w0 E' h' W2 ∧ FullFrom s.h.length h' ∧ R h' := fun ⟨h2, f1, f2, f3⟩ =>
      ⟨_, h2, (b1.trans k2).trans (Le.keep _ h2), k3.forget f1, f2, f3⟩
    cases y' with
    | normal =>
      cases y <;> try (exact c3.elim)
      refine ⟨k1, fun b o v hf hv => ?_, fin c4⟩
      exact c2.sr.frz b o v (c1.frz b o v (b1.frz b o v hf))
    | exit id =>
      cases y <;> try (exact c3.elim)
      have : id = _ := c3
      subst this
      exact ⟨k1, _, rfl, fin c4⟩
    | _ => exact c4.elim
  · intro D xs W hD hS ⟨E', h', b1, b2, b3, b4⟩ hK
    exact ⟨D, rfl, hK, .inl ⟨rfl, xs, hS, .of H.sr hD hK b1 b2 b3 b4⟩⟩
  · intro D c pre W hD hS ⟨id, hc, E', h', b1, b2, b3, b4⟩ hK
    subst hc
    exact wpIn_exit ⟨D, rfl, hK, .inr ⟨id, pre, rfl, hS, .of H.sr hD hK b1 b2 b3 b4⟩⟩
end

/-! ### with a mark among the deferred calls -/
def Tl (tl : List Deferred) (a : Act) : Act := { a with defers := a.defers ++ tl }
theorem Tl.put (tl : List Deferred) (a : Act) (d : Option Tmp) (v : Value) : (Tl tl a).put d v = Tl tl (a.put d v) := by cases d <;> rfl

theorem oper_tail {P : Program} {o : Oper} (tl : List Deferred) {a : Act} {w : World} {K : Act → World → Prop} {Q : Exit → Act → World → Prop}
    (h : o.wp P a w (fun a w => K (Tl tl a) w) (fun e a w => Q e (Tl tl a) w)) : o.wp P (Tl tl a) w K Q := by
  unfold Oper.wp at h ⊢
  rw [show (Tl tl a).eval = a.eval from rfl]
  revert h
  generalize (execOp a.eval o).run P w = r
  intro h
  cases r with
  | ok v w' =>
    cases v with
    | value v => show K ((Tl tl a).put _ _) _; rw [Tl.put]; exact h
    | skip => show K ((Tl tl a).put _ _) _; rw [Tl.put]; exact h
    | defer d =>
      show K (({ Tl tl a with defers := d :: (Tl tl a).defers } : Act).put _ _) _
      rw [show ({ Tl tl a with defers := d :: (Tl tl a).defers } : Act) = Tl tl { a with defers := d :: a.defers } from rfl, Tl.put]
      exact h
    | enter f args =>
      refine Calls.mono h fun e w2 hh => ?_
      cases e with
      | returned v => show K ((Tl tl a).put _ _) _; rw [Tl.put]; exact hh
      | panicked c => exact hh
      | outgrown => obtain ⟨a, w, hq⟩ := hh; exact ⟨_, _, hq⟩
    | row r args =>
      refine Rows.mono h fun v w2 hh => ?_
      show K ((Tl tl a).put _ _) _; rw [Tl.put]; exact hh
    | _ => exact h.elim
  | halt x w' =>
    cases x <;> exact h
theorem oper_mono {P : Program} {o : Oper} {a : Act} {w : World} {K K' : Act → World → Prop} {Q Q' : Exit → Act → World → Prop} (hk : ∀ a w, K a w → K' a w) (hq : ∀ e a w, Q e a w → Q' e a w) (h : o.wp P a w K Q) : o.wp P a w K' Q' := by
  unfold Oper.wp at h ⊢
  revert h
  generalize (execOp a.eval o).run P w = r
  intro h
  cases r with
  | ok v w' =>
    cases v with
    | value v => exact hk _ _ h
    | skip => exact hk _ _ h
    | defer d => exact hk _ _ h
    | enter f args =>
      refine Calls.mono h fun e w2 hh => ?_
      cases e with
      | returned v => exact hk _ _ hh
      | panicked c => exact hq _ _ _ hh
      | outgrown => obtain ⟨a, w, hh⟩ := hh; exact ⟨_, _, hq _ _ _ hh⟩
    | row r args => exact Rows.mono h fun v w2 hh => hk _ _ hh
    | _ => exact h.elim
  | halt x w' =>
    cases x <;> first | exact hq _ _ _ h | exact h
theorem list_mono {P : Program} {ops : Array Oper} {Q Q' : Exit → Act → World → Prop} (hq : ∀ e a w, Q e a w → Q' e a w) : ∀ (l : List Oper) (a : Act) (w : World), wpList P ops Q l a w → wpList P ops Q' l a w
  | [], a, w, h => hq _ _ _ h
  | o :: l, a, w, h => by
    unfold wpList at h ⊢
    split
    · rename_i hw
      rw [if_pos hw] at h
      rcases h with h | h
      · exact .inl (oper_mono (list_mono hq l) hq h)
      · exact .inr ⟨h.1, by obtain ⟨a, w, hh⟩ := h.2; exact ⟨_, _, hq _ _ _ hh⟩⟩
    · rename_i hw
      rw [if_neg hw] at h
      exact list_mono hq l _ _ h
theorem list_tail {P : Program} {ops : Array Oper} (tl : List Deferred) {Q : Exit → Act → World → Prop} : ∀ (l : List Oper) (a : Act) (w : World), wpList P ops (fun e a w => Q e (Tl tl a) w) l a w → wpList P ops Q l (Tl tl a) w
  | [], a, w, h => h
  | o :: l, a, w, h => by
    unfold wpList at h ⊢
    rw [show (Tl tl a).tmps = a.tmps from rfl]
    split
    · rename_i hw
      rw [if_pos hw] at h
      rcases h with h | h
      · left
        refine oper_tail tl (Oper.wp_mono (fun a w hk => list_tail tl l a w hk) h)
      · right
        exact ⟨h.1, by obtain ⟨a, w, hq⟩ := h.2; exact ⟨_, _, hq⟩⟩
    · rename_i hw
      rw [if_neg hw] at h
      rw [Tl.put]
      exact list_tail tl l _ _ h

theorem SR.putD {w0 w : World} {E : Env} {h : Hp} {D : Nat} (H : SR w0 E h w) (hl : Lone w0 E D) (o : Obj) : SR w0 E h (w.putObj D o) := by
  obtain ⟨h1, h2, h3, h4⟩ := hl
  have hb : ∀ b, b ≠ D → (w.putObj D o).heap[b]? = w.heap[b]? := fun b hb => World.putObj_heap_other hb
  have hsz : (w.putObj D o).heap.size = w.heap.size := by simp [World.putObj]
  refine ⟨H.len, H.below.trans ⟨rfl, rfl, rfl, by rw [hsz]; exact Nat.le_refl _, fun k hk => hb k (by omega)⟩, fun b p v hf => ?_, fun β x hx => ?_, H.non, H.dis, H.dfr, fun b p ho => ⟨by rw [hsz]; exact (H.old b p ho).1, (H.old b p ho).2⟩, fun b ob ho => ⟨?_, (H.hid b ob ho).2⟩⟩
  · rw [World.cell?_of_block (w := w) (hb b fun e => by subst e; rw [h2 p] at hf; cases hf)]
    exact H.frz b p v hf
  · obtain ⟨l, hl, hr⟩ := H.blk β x hx
    exact ⟨l, hl, hr.mono (Le.refl E) (by rw [hsz]; exact Nat.le_refl _) (hb l.b (h3 β l hl)).symm⟩
  · rw [hb b fun e => by subst e; rw [h4] at ho; cases ho]
    exact (H.hid b ob ho).1

def mark (D : Nat) : Deferred := { target := .collected D, args := #[] }
/-- How a function with such a loop must be left. -/
def RfPost (x : X) (w0 : World) (N : Nat) (E : Env) (rs : List RV) (R : Res → Hp → Prop) : Exit → Act → World → Prop := fun e a w =>
  (e = .ret ∨ e = .normal) ∧ ∃ D a0 E' s', a = Tl [mark D] a0 ∧ w.heap[D]? = some (.deferred (some [])) ∧ Le E E' ∧ SRel x w0 N E' s' a0 w ∧ s'.d = [] ∧ Lone w0 E' D ∧ ∃ v, resV rs s'.t s'.h = some v ∧ R (.ret v) s'.h

theorem SRel.noD {x : X} {w0 w : World} {N : Nat} {E : Env} {s : St} {a : Act} (H : SRel x w0 N E s a w) (h : s.d = []) : a.defers = [] := by
  have := H.df.1
  rw [h] at this
  exact List.eq_nil_of_length_eq_zero (by simpa using this)

theorem acallsM {x : X} {f : FuncId} {fn : Func} {c : Code} (hf : x.P.funcs[f]? = some fn) (hb : fn.body = some c) (hcl : callable x.P f = true) {args : List V} {h : Hp} {rs : List RV} (h4 : ckRs x.P fn.results.toList rs = true)
    (hn : args.length ≤ fn.ntmps) {R : Res → Hp → Prop} {n : Nat}
    (hv : ∀ (w0 : World) (E : Env) (a : Act) (w : World), SRel x w0 fn.ntmps E { t := start args, h, d := [] } a w → c.wpIn Fence.wide n x.P (RfPost x w0 fn.ntmps E rs R) a w) : ACalls x f args h R := by
  refine ⟨hcl, fun w0 E w vs hs hg hvs => callsIn_wide.1 (callsIn_of_wp_marks (n := n) hf hb trivial ?_)⟩
  have hst := SRel.start (N := fn.ntmps) hs hg hvs hn
  refine Code.wpIn_mono (fun e a w' ⟨he, D, a0, E', s', ha, hK, hE, H, hd, hl, v, hr, hR⟩ => ?_) (hv w0 E _ w hst)
  subst ha
  have hL : LeavesInM Fence.wide n x.P fn (Tl [mark D] a0).tmps (fun e w' => ∃ E' h' r, Le E E' ∧ SR w0 E' h' w' ∧ RR E' r e ∧ R r h') (Tl [mark D] a0).defers .returning w' := by
    rw [show (Tl [mark D] a0).defers = a0.defers ++ [mark D] from rfl, H.noD hd, List.nil_append]
    obtain ⟨u, hu, hvr⟩ := results_spec (x := x) (H.sr.putD hl (.deferred none)) H.tm h4 hr
    exact ⟨by simp, .inl ⟨D, _, rfl, run_takeDeferred hK, u, hu, E', s'.h, .ret v, hE, H.sr.putD hl _, hvr, hR⟩⟩
  rcases he with rfl | rfl <;> exact hL

/-- The last words: some operations, and out. -/
theorem last_wp {x : X} (hx : XOk x) {w0 w : World} {N n : Nat} {E0 E : Env} {s : St} {a0 : Act} {D : Nat} {id : Nat} {ops : Array Oper} {bs : List A} (hc : ckAs x.P N ops ops.toList bs = true) {rs : List RV} {R : Res → Hp → Prop}
    (hE : Le E0 E) (H : SRel x w0 N E s a0 w) (hd : s.d = []) (hK : w.heap[D]? = some (.deferred (some []))) (hl : Lone w0 E D)
    (hv : vops x (fun e s' => e = .normal ∧ s'.d = [] ∧ ∃ v, resV rs s'.t s'.h = some v ∧ R (.ret v) s'.h) bs s) :
    (Code.seq (.region id ops false) .ret).wpIn Fence.wide n x.P (RfPost x w0 N E0 rs R) (Tl [mark D] a0) w := by
  have hidD : ∀ b o, (fun b => if b = D then some (Obj.deferred (some [])) else E.hid b) b = some o → w.heap[b]? = some o ∧ (∀ p, E.frz b p = none) ∧ ∀ β l, E.mu β = some l → l.b ≠ b := fun b o hb => by
    simp only at hb
    split at hb
    · rename_i e; subst e; cases hb
      exact ⟨hK, hl.2.1, hl.2.2.1⟩
    · exact H.sr.hid b o hb
  have H1 : SRel x w0 N (E.hide (fun b => if b = D then some (Obj.deferred (some [])) else E.hid b) E.old) s a0 w :=
    ⟨H.sr.hide _ _ hidD H.sr.old, H.gr.hide _ _, fun k => (H.tm k).hide _ _, H.sz, by rw [hd, H.noD hd]; exact ⟨rfl, fun j d u hd => by simp at hd⟩⟩
  refine wpIn_wide.2 (wp_seq (wp_region_list (list_tail [mark D] _ _ _ ?_)))
  have hq := vops_sound hx ops.toList bs _ s a0 w (Le.refl _) hc H1 hv
  refine list_mono (fun e a w' ⟨E', s', y, hE', H', hy, hqy, hd', v, hr, hR⟩ => ?_) _ _ _ hq
  subst hqy
  cases e <;> try (exact hy.elim)
  show Code.wp _ _ _ _ _
  refine wp_ret ⟨.inl rfl, D, a, E'.hide E.hid E.old, s', rfl, ?_, hE.trans ⟨hE'.n, hE'.mu, hE'.frz, rfl, rfl⟩, ⟨H'.sr.hide _ _ (fun b o hb => ?_) (fun b o hb => ?_), H'.gr.hide _ _, fun k => (H'.tm k).hide _ _, H'.sz, ?_⟩, hd', ⟨hl.1, fun p => ?_, fun β l hm => ?_, hl.2.2.2⟩, v, hr, hR⟩
  · exact (H'.sr.hid D _ (by rw [hE'.hid]; simp [Env.hide])).1
  · refine H'.sr.hid b o ?_
    rw [hE'.hid]
    show (if b = D then some (Obj.deferred (some [])) else E.hid b) = some o
    rw [if_neg (fun e => by subst e; rw [hl.2.2.2] at hb; cases hb)]
    exact hb
  · refine H'.sr.old b o ?_
    rw [hE'.old]; exact hb
  · rw [hd', H'.noD hd']; exact ⟨rfl, fun j d u hd => by simp at hd⟩
  · exact (H'.sr.hid D (.deferred (some [])) (by rw [hE'.hid]; simp [Env.hide])).2.1 p
  · exact (H'.sr.hid D (.deferred (some [])) (by rw [hE'.hid]; simp [Env.hide])).2.2 β l hm

/-- A call whose own blocks are told no more behind it; what it answers, by hand. -/
theorem ACalls.iceV {x : X} {f : FuncId} {args : List V} {h : Hp} {R R' : Res → Hp → Prop} (H : ACalls x f args h R)
    (hR : ∀ r h', R r h' → h.length ≤ h'.length ∧ LowH h.length h' ∧ ∃ r', (∀ w0 E w, SR w0 E h' w → ∀ e, RR E r e → RR (E.ices w h.length) r' e) ∧ R' r' (h'.take h.length)) : ACalls x f args h R' := by
  refine ⟨H.1, fun w0 E w vs hs hg hv => (H.2 w0 E w vs hs hg hv).mono ?_⟩
  rintro e w' ⟨E', h', r, hE, hsr, hr, hRr⟩
  obtain ⟨hk, hlow, r', hir, hR'⟩ := hR r h' hRr
  exact ⟨E'.ices w' h.length, h'.take h.length, r', Le.ices hs.len hE hsr, hsr.ices hk hlow, hir w0 E' w' hsr e hr, hR'⟩

theorem VR.ice_fn {w0 w : World} {E : Env} {h : Hp} {k : Nat} (H : SR w0 E h w) {f : Fn} {cap cap' : List V} (hl : cap'.length = cap.length) (hi : ∀ (j : Nat) x y, cap[j]? = some x → cap'[j]? = some y → Ice h k x y)
    {v : Value} (hv : VR E (.fn f [] cap) v) : VR (E.ices w k) (.fn f [] cap') v := by
  cases hv with
  | fn _ _ _ a b h1 h2 h3 h4 =>
    refine .fn f [] cap' a b (by simpa using h1) (by omega) (fun j x v hx => by simp at hx) (fun j y u hy hu => ?_)
    have hj : j < cap.length := by have := (List.getElem?_eq_some_iff.1 hy).1; omega
    exact VR.ice H (hi j _ y (List.getElem?_eq_getElem hj) hy) (h4 j _ u (List.getElem?_eq_getElem hj) hu)

/-- A frozen box's pointer. -/
theorem VR.fp_one {E : Env} {v : V} {u : Value} (h : VR E (.fp [v] 0) u) : ∃ b p sv, u = .pointer (some ⟨b, p, none⟩) ∧ E.frz b p = some sv ∧ VR E v sv := by
  cases h with
  | fp _ _ b p vals h1 h2 h3 => exact ⟨b, p, vals 0, rfl, h1 0 (by simp), h2 0 (by simp)⟩

theorem assign_wp {P : Program} {id p t : Nat} {ty : TypeId} {pos : String} {af : Array Edge} {l n : Nat} {v : Value} {tmps : Array Value} {W : World} {K : Act → World → Prop} (hv : tmps.getD p undef = v)
    (h : K { tmps := tmps.setIfInBounds t v, defers := [] } W) :
    (Code.region id #[{ dst := some t, op := .assign (.tmp p), type := ty, pos := pos, after := af, guard := none }] false).wpIn (rfence l) n P (Exit.then K (fun _ _ _ => False)) { tmps, defers := [] } W := by
  subst hv
  refine wpIn_region ?_
  rw [show List.range #[({ dst := some t, op := .assign (.tmp p), type := ty, pos := pos, after := af, guard := none } : Oper)].size = [0] from rfl]
  rw [wpOpsIn_cons]
  unfold wpOpIn
  simp only [List.getElem?_toArray, List.getElem?_cons_zero]
  rw [if_pos (by rfl)]
  refine oper_in rfl ?_
  exact h

/-- One told part, then the rest. -/
theorem seq_told {x : X} (hx : XOk x) {w0 w : World} {N n : Nat} {E0 E : Env} {s : St} {a : Act} {c1 c2 : Code} {d1 : C} {Q : Exit → Act → World → Prop} (hck : ckC x.P N c1 d1 = true) (hE : Le E0 E) (H : SRel x w0 N E s a w) {R : St → Prop}
    (hv : vc x d1 (fun e s' => e = .normal ∧ R s') s) (K : ∀ E' s' a' w', Le E0 E' → SRel x w0 N E' s' a' w' → R s' → c2.wpIn Fence.wide n x.P Q a' w') : (Code.seq c1 c2).wpIn Fence.wide n x.P Q a w := by
  refine wpIn_seq (wpIn_wide.2 (wp_mono (vc_sound hx c1 d1 _ E0 E s a w hck hE H hv) fun e a' w' ⟨E', s', y, hE', H', hy, hq, hr⟩ => ?_))
  subst hq
  cases e <;> try (exact hy.elim)
  exact K E' s' a' w' hE' H' hr
end Go.Vs
