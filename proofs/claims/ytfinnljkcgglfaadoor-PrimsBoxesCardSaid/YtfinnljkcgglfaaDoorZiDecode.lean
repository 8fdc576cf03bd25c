/- script.Decode. -/
import Derived.Test.YtfinnljkcgglfaaDoorZiKnown
import Derived.Test.YtfinnljkcgglfaaDoorZiChunk
import Derived.Test.YtfinnljkcgglfaaDoorZw
namespace Go.Proofs.YtfinnljkcgglfaaDoor
open Go Go.Vs Go.RowKit
set_option maxRecDepth 100000
set_option linter.unusedSimpArgs false
set_option linter.unusedVariables false
theorem aop_mkf {x : X} {t : Nat → V} {h : Hp} (f : Fn) (a b : List O) : aop x t h (.mkf f a b) = some (.val (.fn f (evs x t a) (evs x t b)) h) := rfl

theorem chunk_spec0 {h : Hp} {v : V} {c : Nat} (hc : 1 ≤ c) (hv : v.cells = [v]) (h1 : v.one = true) : ACalls DX 85 [v, .int .i64 c] h fun r h' =>
    r = .ret (.fn (.func 88) [] [.ptr h.length 0, .ptr (h.length + 1) 0]) ∧ h' = h ++ [some (.cells [v] none), some (.cells [.int .i64 c] none)] := by
  refine acall DX.ok ck85 rfl ?_
  have hlt : ¬ (c : Int) < 1 := by omega
  have hlt' : (1 : Int) ≤ c := by omega
  have e1 : (V.int .i64 (c : Int)).cells = [.int .i64 c] := rfl
  have e2 : (V.int .i64 (c : Int)).one = true := rfl
  have e3 : rd (h ++ [some (.cells [v] none), some (.cells [.int .i64 (c : Int)] none)]) (.ptr (h.length + 1) 0) 1 = some [.int .i64 c] := by simp [rd, hget, sub]
  simp [F85, hv, h1, hlt, hlt', e1, e2, e3, asV, aop_mkf]

theorem chunk_spec {h : Hp} {v : V} {c : Nat} (hc : 1 ≤ c) (hv : v.cells = [v]) (h1 : v.one = true) (hlow : Low h.length v) (hh : LowH h.length h) : ACalls DX 85 [v, .int .i64 c] h fun r h' =>
    r = .ret (.fn (.func 88) [] [.fp [v] 0, .fp [.int .i64 c] 0]) ∧ h' = h := by
  refine (chunk_spec0 hc hv h1).iceV ?_
  rintro r h' ⟨rfl, rfl⟩
  refine ⟨by simp, fun β hβ b hb => hh β hβ b (by rw [hget_old hβ] at hb; exact hb), .ret (.fn (.func 88) [] [.fp [v] 0, .fp [.int .i64 c] 0]), ?_, rfl, by simp⟩
  intro w0 E w H e hr
  cases e with
  | returned u =>
    show VR _ (.fn (.func 88) [] [.fp [v] 0, .fp [.int .i64 c] 0]) u
    refine VR.ice_fn (k := h.length) (cap := [.ptr h.length 0, .ptr (h.length + 1) 0]) (cap' := [.fp [v] 0, .fp [.int .i64 c] 0]) H rfl (fun j x y hx hy => ?_) hr
    match j, hx, hy with
    | 0, hx, hy =>
      simp at hx hy; subst hx; subst hy
      exact .ptr _ 0 [v] [v] none (Nat.le_refl _) (by simp [hget]) rfl (fun j x y hx hy => by
        match j, hx, hy with
        | 0, hx, hy => simp at hx hy; subst hx; subst hy; exact .low v hlow)
    | 1, hx, hy =>
      simp at hx hy; subst hx; subst hy
      exact .ptr _ 0 [.int .i64 c] [.int .i64 c] none (by omega) (by simp [hget]) rfl (fun j x y hx hy => by
        match j, hx, hy with
        | 0, hx, hy => simp at hx hy; subst hx; subst hy; exact .low _ (.int _ _))
  | _ => exact hr.elim

/-! ### the pieces -/

theorem flat_bytes (s : List UInt8) : flat (bytesV s) = bytesV s := by
  induction s with
  | nil => rfl
  | cons b r ih => show V.cells (.int .u8 b.toNat) ++ flat (bytesV r) = _; rw [ih]; rfl

abbrev Pc (len c : Nat) := { k : Nat // k * c < len }

/-- The pieces ahead of k. -/
def upto (len c k : Nat) : List (Pc len c) := (List.range k).filterMap fun i => if h : i * c < len then some ⟨i, h⟩ else none

theorem upto_succ {len c k : Nat} (h : k * c < len) : upto len c (k + 1) = upto len c k ++ [⟨k, h⟩] := by
  unfold upto
  rw [List.range_succ, List.filterMap_append]
  simp only [List.filterMap_cons, List.filterMap_nil, h, dite_true]

theorem upto_length {len c : Nat} : ∀ {k : Nat}, (k = 0 ∨ (k - 1) * c < len) → (upto len c k).length = k
  | 0, _ => rfl
  | k + 1, h => by
    have h' : k * c < len := by rcases h with h | h; omega; simpa using h
    rw [upto_succ h', List.length_append, upto_length (k := k) ?_]; rfl
    cases k with
    | zero => exact .inl rfl
    | succ k => right; rw [Nat.add_sub_cancel]; exact Nat.lt_of_le_of_lt (Nat.mul_le_mul_right c (Nat.le_succ k)) h'

/-- A piece, told. -/
def pieceV (s : List UInt8) (c k : Nat) : V := .lst true (bytesV ((s.drop (k * c)).take c))

theorem piece_vr {E : Env} {ex : Bool} {s : List UInt8} {a : Addr} {cap c k : Nat} (hv : VR E (.lst ex (bytesV s)) (.slice (some a) s.length cap)) (hk : k * c < s.length) :
    VR E (pieceV s c k) (piece a.block a.off c s.length k) := by
  generalize hu : Value.slice (some a) s.length cap = u at hv
  cases hv with
  | lst _ _ es a' b p cap' vals hc hex hes ha h1 h2 h3 =>
    injection hu with hu1 hu2 hu3
    injection hu1 with hu1
    subst hu1
    have hne : bytesV s ≠ [] := by
      intro e
      have := congrArg List.length e
      simp [bytesV] at this
      subst this; simp at hk
    have ha := ha hne
    subst ha
    rw [flat_bytes] at h1 h2 h3
    have hlen : (bytesV ((s.drop (k * c)).take c)).length = min c (s.length - k * c) := by simp [bytesV]
    unfold pieceV piece
    refine hlen ▸ VR.lst true (bytesV ((s.drop (k * c)).take c)) 1 ⟨b, p + k * c, none⟩ b (p + k * c) _ (fun j => vals (k * c + j)) (Nat.le_refl _) (fun _ => rfl) (fun x hx => ?_) (fun _ => rfl) (fun j hj => ?_) (fun j hj => ?_) (fun j hj => ?_)
    · obtain ⟨c', _, rfl⟩ := List.mem_map.1 hx; rfl
    · rw [flat_bytes, hlen] at hj
      rw [Nat.add_assoc]
      exact h1 _ (by simp [bytesV]; omega)
    · have hj' := hj
      rw [flat_bytes, hlen] at hj'
      have := h2 (k * c + j) (by simp [bytesV]; omega)
      have e : (flat (bytesV ((s.drop (k * c)).take c)))[j] = (bytesV s)[k * c + j]'(by simp [bytesV]; omega) := by
        simp only [flat_bytes]
        simp [bytesV]
      rw [e]; exact this
    · rw [flat_bytes, hlen] at hj
      exact h3 _ (by simp [bytesV]; omega)

/-- A list of bytes, told. -/
def BytesV (v : V) (s : List UInt8) : Prop := (v = .nsl ∧ s = []) ∨ ∃ ex, v = .lst ex (bytesV s)

theorem BytesV.vr {v : V} {s : List UInt8} (hs : BytesV v s) {E : Env} {u : Value} (h : VR E v u) : (s = [] ∧ ∃ oa cap, u = .slice oa 0 cap) ∨ ∃ ex a cap, v = .lst ex (bytesV s) ∧ u = .slice (some a) s.length cap ∧ s.length ≤ cap ∧ (s ≠ [] → a = ⟨a.block, a.off, none⟩) := by
  rcases hs with ⟨rfl, rfl⟩ | ⟨ex, rfl⟩
  · cases h; exact .inl ⟨rfl, _, _, rfl⟩
  · right
    have hl : (bytesV s).length = s.length := by simp [bytesV]
    cases h with
    | lst _ _ es a b p cap vals hc hex hes ha h1 h2 h3 =>
      refine ⟨ex, a, cap, rfl, by rw [hl], by omega, fun hne => ?_⟩
      have := ha (by intro e; apply hne; simpa [bytesV] using e)
      subst this; rfl

theorem chunk_stops {E : Env} {s : List UInt8} {v : V} {c : Nat} (hc : 1 ≤ c) (hs : BytesV v s) (hsz : s.length + c < 4611686018427387904) {b p b' p' : Nat} {sv : Value} (hf1 : E.frz b p = some sv) (hv : VR E v sv) (hf2 : E.frz b' p' = some (.int .i64 c))
    {w : World} (hfr : ∀ b o v, E.frz b o = some v → w.cell? ⟨b, o, none⟩ = some v) (n : Nat) (hn : 1 ≤ n) :
    ∃ vl : Pc s.length c → Value, (∀ e, VR E (pieceV s c e.1) (vl e)) ∧
      SeqStopsK Fence.wide n DX.P 88 #[.pointer (some ⟨b, p, none⟩), .pointer (some ⟨b', p', none⟩)] (fun e => #[vl e])
        (fun A B => ∀ b o v, E.frz b o = some v → A.cell? ⟨b, o, none⟩ = some v → B.cell? ⟨b, o, none⟩ = some v)
        (fun xs => ∃ q, xs = upto s.length c q ∧ s.length ≤ q * c ∧ (q = 0 ∨ (q - 1) * c < s.length)) (fun pre => ∃ k, k * c < s.length ∧ pre = upto s.length c (k + 1)) s.length w := by
  have hlt : ∀ {b o : Nat} {v : Value}, E.frz b o = some v → b < w.heap.size := fun h => World.block_lt_of_cell? w _ (hfr _ _ _ h)
  have hcell : ∀ {W : World}, Below w.heap.size w W → ∀ {b o : Nat} {v : Value}, E.frz b o = some v → W.cell? ⟨b, o, none⟩ = some v := fun hW b o v h => by
    rw [hW.cell (p := ⟨b, o, none⟩) (hlt h)]; exact hfr b o v h
  have hd : ∀ (W : World), W.grownBy W.drew none := fun W => ⟨rfl, rfl, rfl, Nat.le_refl _, fun _ _ _ => rfl⟩
  rcases hs.vr hv with ⟨rfl, oa, cap, rfl⟩ | ⟨ex, a, cap, rfl, rfl, hcap, hne⟩
  · refine ⟨fun e => .nilFunc, fun e => absurd e.2 (by simp), fun l J Jx W hW hJ hJx hY h0 => ?_⟩
    exact (chunk0_in n l b p b' p' oa cap (J []) W (hcell hW hf1) h0).mono fun e W' ⟨h1, h2⟩ => ⟨h1, .inl ⟨[], ⟨0, rfl, by simp, .inl rfl⟩, h2⟩⟩
  · refine ⟨fun e => piece a.block a.off c s.length e.1, fun e => piece_vr hv e.2, fun l J Jx W hW hJ hJx hY h0 => ?_⟩
    by_cases hs0 : s = []
    · subst hs0
      exact (chunk0_in n l b p b' p' (some a) cap (J []) W (hcell hW hf1) h0).mono fun e W' ⟨h1, h2⟩ => ⟨h1, .inl ⟨[], ⟨0, rfl, by simp, .inl rfl⟩, h2⟩⟩
    have ha := hne hs0
    refine (chunk1_in n hn l b p b' p' a.block a.off s.length cap c hc hcap hsz (fun A B => ∀ b o v, E.frz b o = some v → A.cell? ⟨b, o, none⟩ = some v → B.cell? ⟨b, o, none⟩ = some v)
      (fun k W => J (upto s.length c k) W) (fun k W => Jx (upto s.length c k) W) (fun x W1 hJ1 hx hx0 => ?_) (fun k W1 h => hJ _ _ _ none h (hd W1) (fun r e => by cases e))
      (fun W1 W2 hk h => hk _ _ _ (by rw [← ha]; exact hf1) h) (fun W1 W2 hk h => hk _ _ _ hf2 h) W (by rw [← ha]; exact hcell hW hf1) (hcell hW hf2) h0).mono ?_
    · have hlen : (upto s.length c x).length < s.length := by
        rw [upto_length hx0]
        exact Nat.lt_of_le_of_lt (Nat.le_mul_of_pos_right x hc) hx
      have := hY (upto s.length c x) ⟨x, hx⟩ W1 hJ1 hlen
      rw [upto_succ hx]
      exact this
    · rintro e W' ⟨h1, ⟨q, q1, q2, q3⟩ | ⟨q, q1, q2⟩⟩
      · exact ⟨h1, .inl ⟨_, ⟨q, rfl, q1, q2⟩, q3⟩⟩
      · exact ⟨h1, .inr ⟨_, ⟨q, q1, rfl⟩, q2⟩⟩
end Go.Proofs.YtfinnljkcgglfaaDoor
