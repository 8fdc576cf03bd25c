/- script.Decode. -/
import Derived.Test.YtfinnljkcgglfaaDoorZiKnown
import Derived.Test.YtfinnljkcgglfaaDoorZiChunk
import Derived.Test.YtfinnljkcgglfaaDoorZw
import Derived.Test.YtfinnljkcgglfaaDoorZv6
set_option linter.unusedSimpArgs false
set_option linter.unusedVariables false
namespace Go.Proofs.YtfinnljkcgglfaaDoor
open Go Go.Vs Go.RowKit
set_option maxRecDepth 100000
set_option linter.unusedSimpArgs false
set_option linter.unusedVariables false
theorem aop_mkfQ {x : X} {t : Nat → V} {h : Hp} (f : Fn) (a b : List O) : aop x t h (.mkf f a b) = some (.val (.fn f (evs x t a) (evs x t b)) h) := rfl
def bytesI (s : List Int) : List V := s.map fun c => .int .u8 c
theorem bytesI_length (s : List Int) : (bytesI s).length = s.length := by simp [bytesI]
theorem bytesI_one (s : List Int) : ∀ y ∈ bytesI s, y.one = true := fun y hy => by
  obtain ⟨c, _, rfl⟩ := List.mem_map.1 hy; rfl
theorem bytesI_low (s : List Int) : ∀ y ∈ bytesI s, Low 0 y := fun y hy => by
  obtain ⟨c, _, rfl⟩ := List.mem_map.1 hy; exact .int _ _
theorem bytesI_append (a b : List Int) : bytesI (a ++ b) = bytesI a ++ bytesI b := by simp [bytesI]


theorem chunk_spec0Q {h : Hp} {v : V} {c : Nat} (hc : 1 ≤ c) (hv : v.cells = [v]) (h1 : v.one = true) : ACalls DX 85 [v, .int .i64 c] h fun r h' =>
    r = .ret (.fn (.func 88) [] [.ptr h.length 0, .ptr (h.length + 1) 0]) ∧ h' = h ++ [some (.cells [v] none), some (.cells [.int .i64 c] none)] := by
  refine acall DX.ok ck85 rfl ?_
  have hlt : ¬ (c : Int) < 1 := by omega
  have hlt' : (1 : Int) ≤ c := by omega
  have e1 : (V.int .i64 (c : Int)).cells = [.int .i64 c] := rfl
  have e2 : (V.int .i64 (c : Int)).one = true := rfl
  have e3 : rd (h ++ [some (.cells [v] none), some (.cells [.int .i64 (c : Int)] none)]) (.ptr (h.length + 1) 0) 1 = some [.int .i64 c] := by simp [rd, hget, sub]
  simp [F85, hv, h1, hlt, hlt', e1, e2, e3, asV, aop_mkfQ]

theorem chunk_specQ {h : Hp} {v : V} {c : Nat} (hc : 1 ≤ c) (hv : v.cells = [v]) (h1 : v.one = true) (hlow : Low h.length v) (hh : LowH h.length h) : ACalls DX 85 [v, .int .i64 c] h fun r h' =>
    r = .ret (.fn (.func 88) [] [.fp [v] 0, .fp [.int .i64 c] 0]) ∧ h' = h := by
  refine (chunk_spec0Q hc hv h1).iceV ?_
  rintro r h' ⟨rfl, rfl⟩
  refine ⟨by simp, fun β hβ b hb => hh β hβ b (by rw [hget_old hβ] at hb; exact hb), .ret (.fn (.func 88) [] [.fp [v] 0, .fp [.int .i64 c] 0]), ?_, rfl, by simp⟩
  intro w0 E w H e hr
  cases e with
  | returned u =>
    show VR _ (.fn (.func 88) [] [.fp [v] 0, .fp [.int .i64 c] 0]) u
    refine VR.ice_fn (k := h.length) (cap := [.ptr h.length 0, .ptr (h.length + 1) 0]) (cap' := [.fp [v] 0, .fp [.int .i64 c] 0]) H rfl (fun j x y hx hy => ?_) hr
    match j, hx, hy with
    | 0, hx, hy =>
      simp at hx hy; subst hx; subst hy
      exact .ptr _ 0 [v] [v] none (Nat.le_refl _) (by simp [hget]) rfl (fun j x y hx hy => by
        match j, hx, hy with
        | 0, hx, hy => simp at hx hy; subst hx; subst hy; exact .low v hlow)
    | 1, hx, hy =>
      simp at hx hy; subst hx; subst hy
      exact .ptr _ 0 [.int .i64 c] [.int .i64 c] none (by omega) (by simp [hget]) rfl (fun j x y hx hy => by
        match j, hx, hy with
        | 0, hx, hy => simp at hx hy; subst hx; subst hy; exact .low _ (.int _ _))
  | _ => exact hr.elim

/-! ### the pieces -/

theorem flat_bytesQ (s : List Int) : flat (bytesI s) = bytesI s := by
  induction s with
  | nil => rfl
  | cons b r ih => show V.cells (.int .u8 b) ++ flat (bytesI r) = _; rw [ih]; rfl

abbrev PcQ (len c : Nat) := { k : Nat // k * c < len }

/-- The pieces ahead of k. -/
def uptoQ (len c k : Nat) : List (PcQ len c) := (List.range k).filterMap fun i => if h : i * c < len then some ⟨i, h⟩ else none

theorem upto_succQ {len c k : Nat} (h : k * c < len) : uptoQ len c (k + 1) = uptoQ len c k ++ [⟨k, h⟩] := by
  unfold uptoQ
  rw [List.range_succ, List.filterMap_append]
  simp only [List.filterMap_cons, List.filterMap_nil, h, dite_true]

theorem upto_lengthQ {len c : Nat} : ∀ {k : Nat}, (k = 0 ∨ (k - 1) * c < len) → (uptoQ len c k).length = k
  | 0, _ => rfl
  | k + 1, h => by
    have h' : k * c < len := by rcases h with h | h; omega; simpa using h
    rw [upto_succQ h', List.length_append, upto_lengthQ (k := k) ?_]; rfl
    cases k with
    | zero => exact .inl rfl
    | succ k => right; rw [Nat.add_sub_cancel]; exact Nat.lt_of_le_of_lt (Nat.mul_le_mul_right c (Nat.le_succ k)) h'

/-- A piece, told. -/
def pieceVQ (s : List Int) (c k : Nat) : V := .lst true (bytesI ((s.drop (k * c)).take c))

theorem piece_vrQ {E : Env} {ex : Bool} {s : List Int} {a : Addr} {cap c k : Nat} (hv : VR E (.lst ex (bytesI s)) (.slice (some a) s.length cap)) (hk : k * c < s.length) :
    VR E (pieceVQ s c k) (piece a.block a.off c s.length k) := by
  generalize hu : Value.slice (some a) s.length cap = u at hv
  cases hv with
  | lst _ _ es a' b p cap' vals hc hex hes ha h1 h2 h3 =>
    injection hu with hu1 hu2 hu3
    injection hu1 with hu1
    subst hu1
    have hne : bytesI s ≠ [] := by
      intro e
      have := congrArg List.length e
      simp [bytesI] at this
      subst this; simp at hk
    have ha := ha hne
    subst ha
    rw [flat_bytesQ] at h1 h2 h3
    have hlen : (bytesI ((s.drop (k * c)).take c)).length = min c (s.length - k * c) := by simp [bytesI]
    unfold pieceVQ piece
    refine hlen ▸ VR.lst true (bytesI ((s.drop (k * c)).take c)) 1 ⟨b, p + k * c, none⟩ b (p + k * c) _ (fun j => vals (k * c + j)) (Nat.le_refl _) (fun _ => rfl) (fun x hx => ?_) (fun _ => rfl) (fun j hj => ?_) (fun j hj => ?_) (fun j hj => ?_)
    · obtain ⟨c', _, rfl⟩ := List.mem_map.1 hx; rfl
    · rw [flat_bytesQ, hlen] at hj
      rw [Nat.add_assoc]
      exact h1 _ (by simp [bytesI]; omega)
    · have hj' := hj
      rw [flat_bytesQ, hlen] at hj'
      have := h2 (k * c + j) (by simp [bytesI]; omega)
      have e : (flat (bytesI ((s.drop (k * c)).take c)))[j] = (bytesI s)[k * c + j]'(by simp [bytesI]; omega) := by
        simp only [flat_bytesQ]
        simp [bytesI]
      rw [e]; exact this
    · rw [flat_bytesQ, hlen] at hj
      exact h3 _ (by simp [bytesI]; omega)

/-- A list of bytes, told. -/
def BytesIQ (v : V) (s : List Int) : Prop := (v = .nsl ∧ s = []) ∨ ∃ ex, v = .lst ex (bytesI s)

theorem BytesIQ.vr {v : V} {s : List Int} (hs : BytesIQ v s) {E : Env} {u : Value} (h : VR E v u) : (s = [] ∧ ∃ oa cap, u = .slice oa 0 cap) ∨ ∃ ex a cap, v = .lst ex (bytesI s) ∧ u = .slice (some a) s.length cap ∧ s.length ≤ cap ∧ (s ≠ [] → a = ⟨a.block, a.off, none⟩) := by
  rcases hs with ⟨rfl, rfl⟩ | ⟨ex, rfl⟩
  · cases h; exact .inl ⟨rfl, _, _, rfl⟩
  · right
    have hl : (bytesI s).length = s.length := by simp [bytesI]
    cases h with
    | lst _ _ es a b p cap vals hc hex hes ha h1 h2 h3 =>
      refine ⟨ex, a, cap, rfl, by rw [hl], by omega, fun hne => ?_⟩
      have := ha (by intro e; apply hne; simpa [bytesI] using e)
      subst this; rfl

theorem chunk_stopsQ {E : Env} {s : List Int} {v : V} {c : Nat} (hc : 1 ≤ c) (hs : BytesIQ v s) (hsz : s.length + c < 4611686018427387904) {b p b' p' : Nat} {sv : Value} (hf1 : E.frz b p = some sv) (hv : VR E v sv) (hf2 : E.frz b' p' = some (.int .i64 c))
    {w : World} (hfr : ∀ b o v, E.frz b o = some v → w.cell? ⟨b, o, none⟩ = some v) (n : Nat) (hn : 1 ≤ n) :
    ∃ vl : PcQ s.length c → Value, (∀ e, VR E (pieceVQ s c e.1) (vl e)) ∧
      SeqStopsK Fence.wide n DX.P 88 #[.pointer (some ⟨b, p, none⟩), .pointer (some ⟨b', p', none⟩)] (fun e => #[vl e])
        (fun A B => ∀ b o v, E.frz b o = some v → A.cell? ⟨b, o, none⟩ = some v → B.cell? ⟨b, o, none⟩ = some v)
        (fun xs => ∃ q, xs = uptoQ s.length c q ∧ s.length ≤ q * c ∧ (q = 0 ∨ (q - 1) * c < s.length)) (fun pre => ∃ k, k * c < s.length ∧ pre = uptoQ s.length c (k + 1)) s.length w := by
  have hlt : ∀ {b o : Nat} {v : Value}, E.frz b o = some v → b < w.heap.size := fun h => World.block_lt_of_cell? w _ (hfr _ _ _ h)
  have hcell : ∀ {W : World}, Below w.heap.size w W → ∀ {b o : Nat} {v : Value}, E.frz b o = some v → W.cell? ⟨b, o, none⟩ = some v := fun hW b o v h => by
    rw [hW.cell (p := ⟨b, o, none⟩) (hlt h)]; exact hfr b o v h
  have hd : ∀ (W : World), W.grownBy W.drew none := fun W => ⟨rfl, rfl, rfl, Nat.le_refl _, fun _ _ _ => rfl⟩
  rcases hs.vr hv with ⟨rfl, oa, cap, rfl⟩ | ⟨ex, a, cap, rfl, rfl, hcap, hne⟩
  · refine ⟨fun e => .nilFunc, fun e => absurd e.2 (by simp), fun l J Jx W hW hJ hJx hY h0 => ?_⟩
    exact (chunk0_in n l b p b' p' oa cap (J []) W (hcell hW hf1) h0).mono fun e W' ⟨h1, h2⟩ => ⟨h1, .inl ⟨[], ⟨0, rfl, by simp, .inl rfl⟩, h2⟩⟩
  · refine ⟨fun e => piece a.block a.off c s.length e.1, fun e => piece_vrQ hv e.2, fun l J Jx W hW hJ hJx hY h0 => ?_⟩
    by_cases hs0 : s = []
    · subst hs0
      exact (chunk0_in n l b p b' p' (some a) cap (J []) W (hcell hW hf1) h0).mono fun e W' ⟨h1, h2⟩ => ⟨h1, .inl ⟨[], ⟨0, rfl, by simp, .inl rfl⟩, h2⟩⟩
    have ha := hne hs0
    refine (chunk1_in n hn l b p b' p' a.block a.off s.length cap c hc hcap hsz (fun A B => ∀ b o v, E.frz b o = some v → A.cell? ⟨b, o, none⟩ = some v → B.cell? ⟨b, o, none⟩ = some v)
      (fun k W => J (uptoQ s.length c k) W) (fun k W => Jx (uptoQ s.length c k) W) (fun x W1 hJ1 hx hx0 => ?_) (fun k W1 h => hJ _ _ _ none h (hd W1) (fun r e => by cases e))
      (fun W1 W2 hk h => hk _ _ _ (by rw [← ha]; exact hf1) h) (fun W1 W2 hk h => hk _ _ _ hf2 h) W (by rw [← ha]; exact hcell hW hf1) (hcell hW hf2) h0).mono ?_
    · have hlen : (uptoQ s.length c x).length < s.length := by
        rw [upto_lengthQ hx0]
        exact Nat.lt_of_le_of_lt (Nat.le_mul_of_pos_right x hc) hx
      have := hY (uptoQ s.length c x) ⟨x, hx⟩ W1 hJ1 hlen
      rw [upto_succQ hx]
      exact this
    · rintro e W' ⟨h1, ⟨q, q1, q2, q3⟩ | ⟨q, q1, q2⟩⟩
      · exact ⟨h1, .inl ⟨_, ⟨q, rfl, q1, q2⟩, q3⟩⟩
      · exact ⟨h1, .inr ⟨_, ⟨q, q1, rfl⟩, q2⟩⟩
end Go.Proofs.YtfinnljkcgglfaaDoor
namespace Go.Proofs.YtfinnljkcgglfaaDoor
open Go Go.Vs Go.RowKit
set_option maxRecDepth 100000
set_option linter.unusedSimpArgs false
set_option linter.unusedVariables false
attribute [local simp] unV extV wanted strBin vpt vpn vmp nilV_ptr

/-- 11: the body of a loop over a function -/
def B11Q : C :=
  (.block 1
    (.dreg [⟨(some 30), (.load 1 false (.t 10)), none⟩,
      ⟨(some 31), (.mov (.t 11)), none⟩,
      ⟨(some 32), (.arrp 32 1 (.t 31)), none⟩,
      ⟨(some 33), (.load 32 true (.t 32)), none⟩,
      ⟨(some 34), (.mks true 32 32 true [(.int .u8 0), (.int .u8 0), (.int .u8 0), (.int .u8 0), (.int .u8 0), (.int .u8 0), (.int .u8 0), (.int .u8 0), (.int .u8 0), (.int .u8 0), (.int .u8 0), (.int .u8 0), (.int .u8 0), (.int .u8 0), (.int .u8 0), (.int .u8 0), (.int .u8 0), (.int .u8 0), (.int .u8 0), (.int .u8 0), (.int .u8 0), (.int .u8 0), (.int .u8 0), (.int .u8 0), (.int .u8 0), (.int .u8 0), (.int .u8 0), (.int .u8 0), (.int .u8 0), (.int .u8 0), (.int .u8 0), (.int .u8 0)] 1 [(0, (.t 33))]), none⟩,
      ⟨(some 35), (.app 32 32 true none (.t 30) (.t 34)), none⟩,
      ⟨none, (.store 1 (.t 10) (.t 35)), none⟩] (.lin [] [(0, none), (1, none), (2, none), (3, none), (4, none), (5, some []), (6, some [])])))

theorem callableKQ : callable DX.P 81 = true := by kernel_rfl
theorem keys_shapeQ : ∃ r0 r1 r2 r3 r4 bd ops ty pos af i1 i2, Tryd.f81.body = some (.seq r0 (.seq r1 (.seq r2 (.seq r3 (.seq (.seq r4 (.block 0 (.rangeFunc (.tmp 28) #[29] (.region i1 #[{ dst := some 11, op := .assign (.tmp 29), type := ty, pos := pos, after := af, guard := none }] false) bd))) (.seq (.region i2 ops false) .ret)))))) ∧
    ckC DX.P 38 r0 (.reg [⟨(some 3), (.box none (.t 0)), none⟩, ⟨(some 6), (.mov (.k .nsl)), none⟩, ⟨(some 7), (.mov (.k (.int .i64 0))), none⟩]) = true ∧
    ckC DX.P 38 r1 (.seq (.reg [⟨(some 12), (.mov (.t 2)), none⟩,
      ⟨(some 13), (.bin .lss .num (.t 12) (.k (.int .i64 1))), none⟩,
      ⟨(some 14), (.mov (.t 13)), none⟩,
      ⟨(some 15), (.mov (.t 2)), some (14, false)⟩,
      ⟨(some 16), (.bin .gtr .num (.t 15) (.k (.int .i64 3))), some (14, false)⟩,
      ⟨(some 17), (.pick (.t 14) (.k (.bool true)) (.t 16)), none⟩])
    (.cond (.t 17)
      (.seq (.reg [⟨(some 6), (.mov (.k .nsl)), none⟩,
        ⟨(some 7), (.mov (.k (.int .i64 2))), none⟩])
      .ret)
      .skip)) = true ∧
    ckC DX.P 38 r2 (.reg [⟨(some 19), (.slca 32 1 false (.t 3) none none none), none⟩,
      ⟨(some 20), (.mov (.t 1)), none⟩,
      ⟨(some 21), (.call (.k (.fn (.func 84) [] [])) [(.t 19), (.t 20)]), none⟩,
      ⟨(some 22), (.mov (.t 2)), none⟩,
      ⟨(some 23), (.bin .mul .num (.t 22) (.k (.int .i64 32))), none⟩,
      ⟨(some 24), (.call (.k (.fn (.func 83) [] [])) [(.t 21), (.k .nsl), (.t 23)]), none⟩,
      ⟨(some 18), (.mov (.t 24)), none⟩,
      ⟨(some 25), (.ext (.t 18) 0), none⟩,
      ⟨(some 26), (.ext (.t 18) 1), none⟩,
      ⟨(some 8), (.mov (.t 25)), none⟩,
      ⟨(some 9), (.mov (.t 26)), none⟩]) = true ∧
    ckC DX.P 38 r3 (.reg [⟨(some 10), (.new [.nsl] none), none⟩]) = true ∧
    ckC DX.P 38 r4 (.reg [⟨(some 27), (.mov (.t 8)), none⟩,
      ⟨(some 28), (.call (.k (.fn (.func 85) [] [])) [(.t 27), (.k (.int .i64 32))]), none⟩]) = true ∧
    ckC DX.P 38 bd B11Q = true ∧ noDs bd = true ∧ ckAs DX.P 38 ops ops.toList [⟨(some 36), (.load 1 false (.t 10)), none⟩,
      ⟨(some 37), (.mov (.t 9)), none⟩,
      ⟨(some 6), (.mov (.t 36)), none⟩,
      ⟨(some 7), (.mov (.t 37)), none⟩] = true :=
  ⟨_, _, _, _, _, _, _, _, _, _, _, _, rfl, by kernel_rfl, by kernel_rfl, by kernel_rfl, by kernel_rfl, by kernel_rfl, by kernel_rfl, by kernel_rfl, by kernel_rfl⟩
theorem ckrsKQ : ckRs DX.P Tryd.f81.results.toList [.t 6, .t 7] = true := by kernel_rfl

theorem VR.fn2Q {E : Env} {f : Fn} {x y : V} {u : Value} (h : VR E (.fn f [] [x, y]) u) : ∃ p q, u = .func f #[] #[p, q] ∧ VR E x p ∧ VR E y q := by
  cases h with
  | fn _ _ _ a b h1 h2 h3 h4 =>
    have ha : a = #[] := Array.eq_empty_of_size_eq_zero (by simpa using h1)
    subst ha
    obtain ⟨l⟩ := b
    match l, h2 with
    | [p, q], _ => exact ⟨p, q, rfl, h4 0 x p rfl rfl, h4 1 y q rfl rfl⟩
    | [], h2 => simp at h2
    | [_], h2 => simp at h2
    | _ :: _ :: _ :: _, h2 => simp at h2

def keepVQ (ov : V) (h : Hp) : Hp := h.mapIdx fun i b => if i < 2 ∨ ov.blk = some i then b else none
theorem keepV_getQ (ov : V) (h : Hp) (i : Nat) : hget (keepVQ ov h) i = if i < 2 ∨ ov.blk = some i then hget h i else none := by
  unfold keepVQ hget
  rw [List.getElem?_mapIdx]
  cases h[i]? with
  | none => simp
  | some b => simp only [Option.map_some, Option.join_some]
theorem hget_someQ {h : Hp} {β : Nat} {y : Blk} : h[β]? = some (some y) ↔ hget h β = some y := by
  unfold hget
  cases h[β]? with
  | none => simp
  | some b => simp
theorem keepV_fgQ (ov : V) (h : Hp) : Fg h (keepVQ ov h) := by
  refine ⟨by simp [keepVQ], fun β y hy => ?_⟩
  rw [hget_someQ] at hy ⊢
  rw [keepV_getQ] at hy
  split at hy
  · exact hy
  · cases hy

/-- What is held between two pieces. -/
def HeldQ (ys : List V) (n : Nat) (h : Hp) : Prop :=
  ∃ ov, hget h 1 = some (.cells [ov] none) ∧ Vs.Own h 2 32 true ov n ys ∧ (n = 0 → ov = .nsl)

theorem HeldQ.keep {ys : List V} {n : Nat} {h : Hp} {ov : V} (hg : hget h 1 = some (.cells [ov] none)) (hO : Vs.Own h 2 32 true ov n ys) (h0 : n = 0 → ov = .nsl) :
    FullFrom 2 (keepVQ ov h) ∧ HeldQ ys n (keepVQ ov h) := by
  refine ⟨fun β b hβ hb' => ?_, ov, by rw [keepV_getQ, if_pos (.inl (by omega))]; exact hg, ⟨hO.1, ?_⟩, h0⟩
  · rw [hget_someQ, keepV_getQ] at hb'
    split at hb'
    · rename_i hc
      rcases hc with hc | hc
      · omega
      · obtain ⟨hl, ⟨rfl, _⟩ | ⟨rfl, _⟩ | ⟨b', cap, ex, rest, ty, rfl, c2, c3, c4⟩⟩ := hO
        · simp [V.blk] at hc
        · simp [V.blk] at hc
        · simp [V.blk] at hc
          subst hc
          rw [c3] at hb'; cases hb'
          have hn : n ≠ 0 := fun e => by have := h0 e; cases this
          match hm : ys ++ rest with
          | [] =>
            have := congrArg List.length hm
            rw [List.length_append, hl] at this
            simp at this; omega
          | _ :: _ => rfl
    · cases hb'
  · rcases hO.2 with hh | hh | ⟨b, cap, ex, rest, ty, c1, c2, c3, c4⟩
    · exact .inl hh
    · exact .inr (.inl hh)
    · exact .inr (.inr ⟨b, cap, ex, rest, ty, c1, c2, by rw [keepV_getQ, if_pos (.inr (by rw [c1]; rfl))]; exact c3, c4⟩)

theorem bytesI_takeQ (s : List Int) (k : Nat) : bytesI (s.take k) = (bytesI s).take k := by simp [bytesI, List.map_take]
def cellsPQ (s : List Int) (pre : List (PcQ s.length 32)) : List V := pre.flatMap fun p => bytesI ((s.drop (p.1 * 32)).take 32)
theorem cellsP_uptoQ (s : List Int) : ∀ {k : Nat}, (k = 0 ∨ (k - 1) * 32 < s.length) → cellsPQ s (uptoQ s.length 32 k) = bytesI (s.take (32 * k))
  | 0, _ => by simp [cellsPQ, uptoQ, bytesI]
  | k + 1, h => by
    have h' : k * 32 < s.length := by omega
    have h2 : k = 0 ∨ (k - 1) * 32 < s.length := by omega
    have e : cellsPQ s (uptoQ s.length 32 (k + 1)) = cellsPQ s (uptoQ s.length 32 k) ++ bytesI ((s.drop (k * 32)).take 32) := by rw [upto_succQ h']; simp [cellsPQ]
    rw [e, cellsP_uptoQ s h2, ← bytesI_append]
    congr 1
    rw [show 32 * (k + 1) = 32 * k + 32 by omega, List.take_add, Nat.mul_comm k 32]
def InvKQ (s : List Int) (pre : List (PcQ s.length 32)) (h : Hp) : Prop :=
  FullFrom 2 h ∧ HeldQ (cellsPQ s pre) pre.length h
def InvXKQ (s : List Int) (id : Nat) (xs : List (PcQ s.length 32)) (h : Hp) : Prop := False

def arrpVQ (h : Hp) (n es : Nat) : V → Option Rz
  | .sl b off len _ _ es' _ => if n ≤ len ∧ es' = es ∧ 0 < n then some (.val (.ptr b off) h) else none
  | .lst _ xs => if n ≤ xs.length ∧ 0 < n then some (.val (.fp (flat xs) 0) h) else none
  | _ => none
theorem aop_arrpVQ {x : X} {t : Nat → V} {h : Hp} (n es : Nat) (a : O) : aop x t h (.arrp n es a) = arrpVQ h n es (a.ev x t) := by
  simp only [aop, arrpVQ]
  generalize a.ev x t = u
  cases u <;> rfl

def slcaVVQ (h : Hp) (n es : Nat) (ag : Bool) : V → Option Rz
  | .ptr b o => if (rd h (.ptr b o) (n * es)).isSome then some (.val (.sl b (o + 0 * es) (n - 0) (n - 0) true es ag) h) else none
  | .fp cs o => (sub cs o (n * es)).map fun c => .val (.lst (n == n) (((chunk es ag n c).take n).drop 0)) h
  | _ => none
theorem aop_slcaVQ {x : X} {t : Nat → V} {h : Hp} (n es : Nat) (ag : Bool) (a : O) : aop x t h (.slca n es ag a none none none) = slcaVVQ h n es ag (a.ev x t) := by
  simp only [aop, slcaVVQ, bnd]
  rw [if_pos ⟨Nat.zero_le _, Nat.le_refl _, Nat.le_refl _⟩]
  generalize a.ev x t = u
  cases u <;> rfl

theorem bodyKQ {t : Nat → V} {h : Hp} {pl : List Int} {ov : V} {k : Nat} {ys : List V} {Q : Ex → St → Prop} (ht10 : t 10 = .ptr 1 0) (ht11 : t 11 = .lst true (bytesI pl)) (hpl : pl.length = 32) (hg : hget h 1 = some (.cells [ov] none))
    (hO : Vs.Own h 2 32 true ov k ys) (hk : k ≤ 200)
    (hQ : ∀ t' v' h', Vs.Own h' 2 32 true v' (k + 1) (ys ++ bytesI pl) → hget h' 1 = some (.cells [v'] none) → h.length ≤ h'.length → Q .normal { t := t', h := h', d := [] }) : vc DX B11Q Q { t, h, d := [] } := by
  have q0 := rd_cell hg 0
  simp [sub] at q0
  have hlen : (bytesI pl).length = 32 := by simp [bytesI, hpl]
  have hfl := flat_bytesQ pl
  have e1 : arrpVQ h 32 1 (.lst true (bytesI pl)) = some (.val (.fp (bytesI pl) 0) h) := by
    simp only [arrpVQ, hlen, hfl]
    rw [if_pos ⟨Nat.le_refl _, by omega⟩]
  have e2 : rd h (.fp (bytesI pl) 0) 32 = some (bytesI pl) := by
    simp only [rd, sub]
    rw [if_pos (by omega)]
    simp [hlen, List.take_of_length_le]
  have hone : ∀ y ∈ bytesI pl, y.one = true := bytesI_one pl
  have e3 : fillV (List.replicate 32 (.int .u8 0)) [(0, 32, .agg (bytesI pl))] = some (bytesI pl) := by
    obtain ⟨a, b⟩ : ∃ l : List V, bytesI pl = l ∧ l.length = 32 ∧ ∀ y ∈ l, y.one = true := ⟨_, rfl, hlen, hone⟩
    simp only [fillV, V.cells, hlen]
    rw [if_pos ⟨trivial, by simp, hone⟩]
    rw [setAll_eq _ _ _ (by simp [hlen])]
    simp [hlen]
  have e3' : fillV [.int .u8 0, .int .u8 0, .int .u8 0, .int .u8 0, .int .u8 0, .int .u8 0, .int .u8 0, .int .u8 0, .int .u8 0, .int .u8 0, .int .u8 0, .int .u8 0, .int .u8 0, .int .u8 0, .int .u8 0, .int .u8 0, .int .u8 0, .int .u8 0, .int .u8 0, .int .u8 0, .int .u8 0, .int .u8 0, .int .u8 0, .int .u8 0, .int .u8 0, .int .u8 0, .int .u8 0, .int .u8 0, .int .u8 0, .int .u8 0, .int .u8 0, .int .u8 0] [(0, 32, .agg (bytesI pl))] = some (bytesI pl) := e3
  have e4 : chunk 32 true 1 (bytesI pl) = [.agg (bytesI pl)] := by simp [chunk, List.take_of_length_le, hlen]
  obtain ⟨v', h', a1, a2, a3, a4, a5, a6⟩ := Own.app (h := h) (k := 2) (es := 32) (bt := 32) (ag := true) (ty := none) (v := ov) (a := .lst true [.agg (bytesI pl)]) (m := 1) (zs := bytesI pl) (by have := hget_lt hg; omega) hO (by simp [src, flat, V.cells, hlen]) (by simp [hlen]) (by unfold room; omega)
  have hne : ov.blk ≠ some 1 := fun e => by have := hO.blk_ge e; omega
  have hg' : hget h' 1 = some (.cells [ov] none) := by rw [a4 1 (hget_lt hg) hne]; exact hg
  have one := a2.onec
  have S1 := st_cell hg' (o := 0) one.1 one.2 (by simp)
  simp at S1
  simp [B11Q]
  refine vD_lin ?_
  simp [reL, vLs, vLg, vLq, dstO, nth_zero, nth_succ, nd, tell, fadV, asV, ht10, ht11, q0, aop_arrpVQ, e1, e2, e3', e4, a1, S1]
  exact hQ _ v' _ (a2.keepB fun b hb => hget_set_ne (by have := a2.blk_ge hb; omega) _) (hget_set (hget_lt hg') _) (by simpa using a6)

theorem roundKQ {n : Nat} {s : List Int} (hs : s.length = 32 * n) (hn : n ≤ 3) {t : Nat → V} (ht10 : t 10 = .ptr 1 0) (pre : List (PcQ s.length 32)) (e : PcQ s.length 32) (h : Hp) (hi : InvKQ s pre h) (hlp : pre.length < s.length) :
    vc DX B11Q (rfPost 2 (InvKQ s) (InvXKQ s) (pre ++ [e])) { t := put (put t (some 29) (pieceVQ s 32 e.1)) (some 11) (pieceVQ s 32 e.1), h, d := [] } := by
  obtain ⟨hf, ov, hg, hO, h0⟩ := hi
  have hlt := e.2
  refine bodyKQ (pl := (s.drop (e.1 * 32)).take 32) (ov := ov) (k := pre.length) (by simp [ht10]) (by simp [pieceVQ]) (by simp; omega) hg hO (by omega) (fun t' v' h' c1 c2 c3 => ?_)
  obtain ⟨k1, k2⟩ := HeldQ.keep c2 c1 (by omega)
  refine ⟨keepVQ v' h', keepV_fgQ v' h', k1, k1, ?_⟩
  have : cellsPQ s (pre ++ [e]) = cellsPQ s pre ++ bytesI ((s.drop (e.1 * 32)).take 32) := by simp [cellsPQ]
  rw [this, List.length_append]
  exact k2

theorem finKQ {n : Nat} {s : List Int} (hs : s.length = 32 * n) {h : Hp} : (∃ xs, (∃ q, xs = uptoQ s.length 32 q ∧ s.length ≤ q * 32 ∧ (q = 0 ∨ (q - 1) * 32 < s.length)) ∧ InvKQ s xs h) ∨ (∃ id pre, (∃ k, k * 32 < s.length ∧ pre = uptoQ s.length 32 (k + 1)) ∧ InvXKQ s id pre h) →
    HeldQ (bytesI s) n h := by
  rintro (⟨xs, ⟨q, rfl, h1, h2⟩, _, h3⟩ | ⟨id, xs, _, hf⟩)
  · rw [upto_lengthQ h2, cellsP_uptoQ s h2] at h3
    have : q = n := by omega
    subst this
    rw [List.take_of_length_le (by omega)] at h3
    exact h3
  · exact hf.elim

theorem HeldQ.last {ys : List V} {n : Nat} {h : Hp} {t : Nat → V} (ht : t 10 = .ptr 1 0) (ht9 : t 9 = .int .i64 0) (H : HeldQ ys n h) :
    vops DX (fun e s' => e = .normal ∧ s'.d = [] ∧ ∃ v, resV [.t 6, .t 7] s'.t s'.h = some v ∧ (fun r h' => ∃ ov, r = Res.ret (.tup [ov, .int .i64 0]) ∧ Vs.Own h' 1 32 true ov n ys ∧ (n = 0 → ov = .nsl)) (.ret v) s'.h)
      [⟨(some 36), (.load 1 false (.t 10)), none⟩, ⟨(some 37), (.mov (.t 9)), none⟩, ⟨(some 6), (.mov (.t 36)), none⟩, ⟨(some 7), (.mov (.t 37)), none⟩] { t, h, d := [] } := by
  obtain ⟨ov, hg, hO, h0⟩ := H
  have q0 := rd_cell hg 0
  simp [sub] at q0
  simp [ht, q0, asV, ht9]
  exact ⟨hO.low (by omega), h0⟩

set_option maxHeartbeats 2000000 in
/-- Keys of bytes that Expand tells. -/
theorem keys0Q {n : Nat} {s : List Int} {key : List V} {b X L : V} (hkl : key.length = 32) (hk1 : ∀ y ∈ key, y.one = true ∧ Low 0 y) (hb : Low 0 b) (hn1 : 1 ≤ n) (hn3 : n ≤ 3) (hL : BytesIQ L s) (hs : s.length = 32 * n)
    (hE : ACalls DX 84 [.sl 0 0 32 32 true 1 false, b] [some (.cells key none)] fun r h' => r = .ret X ∧ h' = [some (.cells key none)])
    (hX : PCalls DX 83 [X, .nsl, .int .i64 (32 * (n : Int))] fun r => r = .ret (.tup [L, .int .i64 0])) (hXl : Low 0 X) :
    ACalls DX 81 [.agg key, b, .int .i64 n] [] fun r h' => ∃ ov, r = .ret (.tup [ov, .int .i64 0]) ∧ Vs.Own h' 1 32 true ov n (bytesI s) ∧ (n = 0 → ov = .nsl) := by
  obtain ⟨r0, r1, r2, r3, r4, bd, ops, ty, pos, af, i1, i2, hbd, k0, k1, k2, k3, k4, kb, kn, k7⟩ := keys_shapeQ
  have hv1 : L.cells = [L] ∧ L.one = true ∧ Low 0 L := by
    rcases hL with ⟨rfl, _⟩ | ⟨ex, rfl⟩
    · exact ⟨rfl, rfl, .nsl⟩
    · exact ⟨rfl, rfl, .lst _ _ (by rw [flat_bytesQ]; exact bytesI_low s)⟩
  have g1 : ¬ (n : Int) < 1 := by omega
  have g1' : (1 : Int) ≤ n := by omega
  have g2 : ¬ 3 < (n : Int) := by omega
  have g2' : (n : Int) ≤ 3 := by omega
  have g3 : ¬ n = 0 := by omega
  have g4 : 0 < n := by omega
  have hw : IntKind.i64.wrap ((n : Int) * 32) = 32 * (n : Int) := by rw [wrap64 (by omega) (by omega)]; omega
  have hko0 : ∀ y ∈ key, y.one = true := fun y hy => (hk1 y hy).1
  have hko := eq_true hko0
  have hrd : rd [some (.cells key none)] (.ptr 0 0) 32 = some key := by simp [rd, hget, sub, hkl, List.take_of_length_le]
  refine acallsM (fn := Tryd.f81) Tryd.func81 hbd callableKQ (rs := [.t 6, .t 7]) ckrsKQ (by show [V.agg key, b, V.int .i64 n].length ≤ 38; simp) (n := 9) fun w0 E a w H => ?_
  refine seq_told DX.ok k0 (Le.refl E) H (R := fun s' => s'.d = [] ∧ s'.h = [some (.cells key none)] ∧ s'.t 1 = b ∧ s'.t 2 = .int .i64 n ∧ s'.t 3 = .ptr 0 0) (by simp [V.cells, hko]) fun E1 s1 a1 w1 hE1 H1 ⟨d1, g1h, t11, t12, t13⟩ => ?_
  refine seq_told DX.ok k1 hE1 H1 (R := fun s' => s'.d = [] ∧ s'.h = [some (.cells key none)] ∧ s'.t 1 = b ∧ s'.t 2 = .int .i64 n ∧ s'.t 3 = .ptr 0 0) (by simp [d1, g1h, t11, t12, t13, g1, g1', g2, g2', g3, g4]) fun E2 s2 a2 w2 hE2 H2 ⟨d2, g2h, t21, t22, t23⟩ => ?_
  refine seq_told DX.ok k2 hE2 H2 (R := fun s' => s'.d = [] ∧ s'.h = [some (.cells key none)] ∧ s'.t 8 = L ∧ s'.t 9 = .int .i64 0) ?_ fun E3 s3 a3 w3 hE3 H3 ⟨d3, g3h, t38, t39⟩ => ?_
  · simp [d2, g2h, t21, t22, t23, aop_slcaVQ, slcaVVQ, hrd]
    refine hE.mono ?_
    rintro r h' ⟨rfl, rfl⟩
    simp [t22, hw]
    refine (PCalls.at DX.low hX (fun a ha => by
      simp at ha; rcases ha with rfl | rfl | rfl
      · exact hXl
      · exact .nsl
      · exact .int _ _) _).mono ?_
    rintro r h' ⟨rfl, rfl⟩
    simp
  refine seq_told DX.ok k3 hE3 H3 (R := fun s' => s'.d = [] ∧ s'.h = [some (.cells key none), some (.cells [.nsl] none)] ∧ s'.t 8 = L ∧ s'.t 9 = .int .i64 0 ∧ s'.t 10 = .ptr 1 0) (by simp [d3, g3h, t38, t39]) fun E4 s4 a4 w4 hE4 H4 ⟨d4, g4h, t48, t49, t410⟩ => ?_
  refine wpIn_seq ?_
  refine seq_told (R := fun s' => s'.d = [] ∧ s'.h = [some (.cells key none), some (.cells [.nsl] none)] ∧ s'.t 9 = .int .i64 0 ∧ s'.t 10 = .ptr 1 0 ∧ s'.t 28 = .fn (.func 88) [] [.fp [L] 0, .fp [.int .i64 (32 : Nat)] 0]) DX.ok k4 hE4 H4 ?_ fun E5 s5 a5 w5 hE5 H5 ⟨d5, g5h, p9, p10, q28⟩ => ?_
  · simp [d4, g4h, t48, t49, t410]
    refine (chunk_specQ (h := [some (.cells key none), some (.cells [.nsl] none)]) (c := 32) (by omega) hv1.1 hv1.2.1 (Low.mono (Nat.zero_le _) hv1.2.2) (fun β hβ b' hb' => ?_)).mono ?_
    · match β, hb' with
      | 0, hb' =>
        simp [hget] at hb'; subst hb'
        intro c hc; exact Low.mono (Nat.zero_le _) (hk1 c hc).2
      | 1, hb' =>
        simp [hget] at hb'; subst hb'
        intro c hc; simp at hc; subst hc; exact .nsl
      | β + 2, hb' => simp [hget] at hb'
    · rintro r h' ⟨rfl, rfl⟩
      simp [t49, t410]
  obtain ⟨pc, pn, hu, hpc, hpn⟩ := VR.fn2Q (q28 ▸ H5.tm 28)
  obtain ⟨b1, p1, sv, rfl, hf1, hsv⟩ := VR.fp_one hpc
  obtain ⟨b', p', sv', rfl, hf2, hsv'⟩ := VR.fp_one hpn
  cases hsv'
  obtain ⟨vl, hXs, hseq⟩ := chunk_stopsQ (E := E5) (c := 32) (by omega) hL (by omega) hf1 hsv hf2 (w := w5) (fun b o v h => H5.sr.frz b o v h) 8 (by omega)
  have hlen : s5.h.length = 2 := by rw [g5h]; rfl
  have last : ∀ (D : Nat) (W : World) (Y : Hp → Prop), (∀ h', Y h' → HeldQ (bytesI s) n h') → W.heap[D]? = some (.deferred (some [])) → rfDone w0 E5 D Y W →
      (Code.seq (.region i2 ops false) .ret).wpIn Fence.wide 9 DX.P (RfPost DX w0 Tryd.f81.ntmps E [.t 6, .t 7] fun r h' => ∃ ov, r = .ret (.tup [ov, .int .i64 0]) ∧ Vs.Own h' 1 32 true ov n (bytesI s) ∧ (n = 0 → ov = .nsl))
        (Tl [Vs.mark D] a5) W := by
    rintro D W Y hY hK ⟨E', h', b1, b2, b3, b4⟩
    refine last_wp DX.ok k7 (hE5.trans b1) (s := { t := s5.t, h := h', d := [] }) ⟨b2, H5.gr.mono b1, fun k => (H5.tm k).mono b1, H5.sz, ?_⟩ rfl hK b3 ((hY h' b4).last p10 p9)
    rw [H5.noD d5]; exact ⟨rfl, fun j d u hd => by simp at hd⟩
  refine wpIn_block (Code.wpIn_mono (fun e a' W ⟨D, ha, hK, hcs⟩ => ?main) (rf_wp DX.ok (g := .tmp 28) (n := 9) (p := 29) (t := 11) (by omega) H5 (by show 29 < 38; omega) (by show 11 < 38; omega) (show a5.eval (.tmp 28) = _ from hu) (enters_of Tryd.func88 (by kernel_rfl) rfl) hXs hseq
    (fun l v tmps W K hv hK => assign_wp hv hK) kb kn (fun β b hβ hb => by rw [List.getElem?_eq_none hβ] at hb; cases hb) (InvKQ s) (InvXKQ s) ?inv (fun pre e h hi hlp => by rw [hlen]; exact roundKQ hs hn3 p10 pre e h hi hlp)))
  case main =>
    have ha' : a' = Tl [Vs.mark D] a5 := by rw [ha]; simp [Tl, Vs.mark, H5.noD d5]
    subst ha'
    rcases hcs with ⟨rfl, xs, hS, hd⟩ | ⟨id, pre, rfl, hS, hd⟩
    · exact last D W _ (fun h' hY => finKQ hs (.inl ⟨xs, hS, hY⟩)) hK hd
    · obtain ⟨E', h', b1, b2, b3, b4⟩ := hd
      exact b4.elim
  case inv =>
    rw [g5h]
    refine ⟨fun β b hβ hb => ?_, .nsl, rfl, ⟨rfl, .inl ⟨rfl, rfl⟩⟩, fun _ => rfl⟩
    rw [List.getElem?_eq_none (by simpa using hβ)] at hb; cases hb

def keysVQ (n : Nat) (s : List Int) : V := .lst false (chunk 32 true n (bytesI s))
theorem keys_specQ {n : Nat} {s : List Int} {key : List V} {b X L : V} (hkl : key.length = 32) (hk1 : ∀ y ∈ key, y.one = true ∧ Low 0 y) (hb : Low 0 b) (hn1 : 1 ≤ n) (hn3 : n ≤ 3) (hL : BytesIQ L s) (hs : s.length = 32 * n)
    (hE : ACalls DX 84 [.sl 0 0 32 32 true 1 false, b] [some (.cells key none)] fun r h' => r = .ret X ∧ h' = [some (.cells key none)])
    (hX : PCalls DX 83 [X, .nsl, .int .i64 (32 * (n : Int))] fun r => r = .ret (.tup [L, .int .i64 0])) (hXl : Low 0 X) :
    PCalls DX 81 [.agg key, b, .int .i64 n] fun r => r = .ret (.tup [keysVQ n s, .int .i64 0]) := by
  refine (keys0Q hkl hk1 hb hn1 hn3 hL hs hE hX hXl).ice ?_
  rintro r h' ⟨ov, rfl, hO, h0⟩
  refine ⟨Nat.zero_le _, LowH.zero _, .ret (.tup [keysVQ n s, .int .i64 0]), ?_, rfl, by simp⟩
  show Ice h' 0 (.tup [ov, .int .i64 0]) (.tup [keysVQ n s, .int .i64 0])
  have h1 : Ice h' 0 ov (keysVQ n s) := by
    obtain ⟨hl, ⟨rfl, hn⟩ | ⟨rfl, hn⟩ | ⟨b, cap, ex, rest, ty, rfl, hb, hg, hc, hce⟩⟩ := hO
    · omega
    · omega
    · unfold keysVQ
      refine .sl b 0 n cap ex 32 true _ ty (bytesI s) (bytesI s) (by omega) hg (by simp [sub, ← hl]) (fun e => by cases e) rfl (fun j x y hx hy => ?_) (fun y hy => bytesI_one s y hy)
      rw [hx] at hy; cases hy
      exact .low _ (bytesI_low s _ (List.mem_of_getElem? hx))
  refine .tup _ _ rfl fun j x y hx hy => ?_
  match j with
  | 0 => simp at hx hy; subst hx; subst hy; exact h1
  | 1 => simp at hx hy; subst hx; subst hy; exact .low _ (.int _ _)
  | j + 2 => simp at hx
end Go.Proofs.YtfinnljkcgglfaaDoor
