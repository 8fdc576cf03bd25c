/- script.Decode: one piece. -/
import Derived.Test.YtbabpibaccngnaaGreatZkDecode
import Derived.Test.YtbabpibaccngnaaGreatZcDecode
namespace Go.Proofs.YtbabpibaccngnaaGreat
open Go Go.Vs Go.RowKit
set_option maxRecDepth 100000
set_option linter.unusedSimpArgs false
set_option linter.unusedVariables false

theorem own_len {h : Hp} {k es : Nat} {ag : Bool} {v : V} {n : Nat} {ys : List V} (H : Vs.Own h k es ag v n ys) : lenV h .slc v = some (.int .i64 n) := by
  obtain ⟨hl, ⟨rfl, rfl⟩ | ⟨rfl, rfl⟩ | ⟨b, cap, ex, rest, ty, rfl, hb, hg, hc, hce⟩⟩ := H <;> rfl

def ops28 : List A := match B28 with
  | .block _ (.seq _ (.seq _ (.dreg ops _))) => ops
  | _ => []

/-- A step, told: its cells. -/
def stepV (b0 b1 b2 : UInt8) (n : Nat) : List V :=
  [.int .i64 ((b0.toNat : Int).tmod 12 + 1), .int .u8 ((b1.toNat : Int).tmod 6), .int .u8 ((IntKind.u8.wrap ((b1.toNat : Int) / 6)).tmod 6), .int .u64 b2.toNat, .str ([116, 101, 120, 116] ++ numB n)]

theorem com28 {t1 : Nat → V} {h : Hp} {ov : V} {n : Nat} {ys : List V} {Q : Ex → St → Prop} {b0 b1 b2 : UInt8} (e3 : t1 3 = .ptr 0 0) (e22 : t1 22 = .fp [.int .u8 b0.toNat] 0) (e28 : t1 28 = .int .u8 ((b1.toNat : Int).tmod 6))
    (e31 : t1 31 = .int .u8 ((IntKind.u8.wrap ((b1.toNat : Int) / 6)).tmod 6)) (e33 : t1 33 = .fp [.int .u8 b2.toNat] 0) (hg : hget h 0 = some (.cells [ov] none)) (hO : Vs.Own h 1 5 true ov n ys) (hov : ov.blk ≠ some 0) (hn : n < 500)
    (hQ : ∀ t' v' h', Vs.Own h' 1 5 true v' (n + 1) (ys ++ stepV b0 b1 b2 n) → hget h' 0 = some (.cells [v'] none) → v'.blk ≠ some 0 → h.length ≤ h'.length → Q .normal { t := t', h := h', d := [] }) :
    vD CX ops28 Q (.com [0, 3, 4, 5, 6, 14, 15, 16, 17, 18, 19, 20, 21, 22] (.cho 23 (.cho 24 .done .nope) .nope)) { t := t1, h, d := [] } := by
  have hov1 : ov.one = true ∧ ov.cells = [ov] := by
    obtain ⟨hl, ⟨rfl, rfl⟩ | ⟨rfl, rfl⟩ | ⟨b, cap, ex, rest, ty, rfl, _⟩⟩ := hO <;> exact ⟨rfl, rfl⟩
  have hrd : rd h (.ptr 0 0) 1 = some [ov] := by simp [rd, hg, sub]
  have hl2 := own_len hO
  have r0 : rd h (.fp [.int .u8 b0.toNat] 0) 1 = some [.int .u8 b0.toNat] := rfl
  have r2 : rd h (.fp [.int .u8 b2.toNat] 0) 1 = some [.int .u8 b2.toNat] := rfl
  have hb0 := b0.toNat_lt
  have hb2 := b2.toNat_lt
  rw [vD_com]
  refine ⟨fun k => match k with
    | 20 => ov | 23 => .int .u8 b0.toNat | 24 => .int .i64 b0.toNat | 25 => .int .i64 ((b0.toNat : Int).tmod 12) | 26 => .int .i64 ((b0.toNat : Int).tmod 12 + 1)
    | 34 => .int .u8 b2.toNat | 35 => .int .u64 b2.toNat | 36 => ov | 37 => .int .i64 n | 38 => .int .u64 n | 39 => .str (numB n) | 40 => .str ([116, 101, 120, 116] ++ numB n)
    | 41 => .agg (stepV b0 b1 b2 n) | 42 => .lst true [.agg (stepV b0 b1 b2 n)] | k => t1 k, h, none, ⟨fun k hk => ?_, fun i hi => ?_, fun _ => rfl⟩, ?_⟩
  · show t1 k = _
    have := fun i hi o ho => hk i hi o ho
    split
    · exact absurd rfl (hk 0 (by simp) _ rfl)
    · exact absurd rfl (hk 3 (by simp) _ rfl)
    · exact absurd rfl (hk 4 (by simp) _ rfl)
    · exact absurd rfl (hk 5 (by simp) _ rfl)
    · exact absurd rfl (hk 6 (by simp) _ rfl)
    · exact absurd rfl (hk 14 (by simp) _ rfl)
    · exact absurd rfl (hk 15 (by simp) _ rfl)
    · exact absurd rfl (hk 16 (by simp) _ rfl)
    · exact absurd rfl (hk 17 (by simp) _ rfl)
    · exact absurd rfl (hk 18 (by simp) _ rfl)
    · exact absurd rfl (hk 19 (by simp) _ rfl)
    · exact absurd rfl (hk 20 (by simp) _ rfl)
    · exact absurd rfl (hk 21 (by simp) _ rfl)
    · exact absurd rfl (hk 22 (by simp) _ rfl)
    · rfl
  · simp only [List.mem_cons, List.not_mem_nil, or_false] at hi
    rcases hi with rfl | rfl | rfl | rfl | rfl | rfl | rfl | rfl | rfl | rfl | rfl | rfl | rfl | rfl
    all_goals refine ⟨_, _, rfl, rfl, ?_⟩
    all_goals simp [Val, wanted, e3, e22, e28, e31, e33, hrd, r0, r2, asV, hl2]
    · simp [cviV, wrapByte]
    · rw [Int.tmod_eq_emod_of_nonneg (by omega)]
      exact wrap64 (by omega) (by omega)
    · simp only [cviV, Option.some.injEq, V.int.injEq, true_and]
      exact wrapu64 (by omega) (by omega)
    · simp only [cviV, Option.some.injEq, V.int.injEq, true_and]
      exact wrapu64 (by omega) (by omega)
    · exact ⟨_, _, ⟨rfl, rfl⟩, PCalls.at CX.low (num_spec (h := []) (by omega) (LowH.zero _)) (fun a ha => by simp at ha; subst ha; exact .int _ _) h⟩
    · have := numB_len 8 (n := n) (by omega)
      simp only [strBin]
      rw [if_pos (by simp [room]; omega)]
      rfl
    · simp [fillV, setAll, V.cells, V.one, stepV]
    · exact ⟨stepV b0 b1 b2 n, by simp [fillV, setAll, V.cells, V.one, stepV], by simp [chunk, stepV]⟩
  · obtain ⟨v', h', a1, a2, a3, a4, a5, a6⟩ := Own.app (h := h) (k := 1) (es := 5) (bt := 40) (ag := true) (ty := none) (v := ov) (a := .lst true [.agg (stepV b0 b1 b2 n)]) (m := 1) (zs := stepV b0 b1 b2 n) (by
      have := hget_lt hg; omega) hO (by simp [src, flat, V.cells, stepV]) rfl (by unfold room; omega)
    have hg' : hget h' 0 = some (.cells [ov] none) := by rw [a4 0 (hget_lt hg) hov]; exact hg
    have hv1 : v'.one = true ∧ v'.cells = [v'] ∧ v'.blk ≠ some 0 := by
      obtain ⟨hl, ⟨rfl, _⟩ | ⟨rfl, _⟩ | ⟨b, cap, ex, rest, ty, rfl, hb, _⟩⟩ := a2
      · exact ⟨rfl, rfl, by simp [V.blk]⟩
      · exact ⟨rfl, rfl, by simp [V.blk]⟩
      · exact ⟨rfl, rfl, by simp [V.blk]; omega⟩
    have hst : stV h' 1 (.ptr 0 0) v' = some (.skip (h'.set 0 (some (.cells [v'] none)))) := by
      simp only [stV, hv1.2.1]
      rw [if_pos ⟨rfl, fun c hc => by simp at hc; subst hc; exact hv1.1⟩, wr_own hg' (by simp)]
      rfl
    simp [e3, a1, hst, ops28, B28]
    have h0 := hget_lt hg'
    refine hQ _ v' _ ?_ (hget_set h0 _) hv1.2.2 (by simpa using a6)
    obtain ⟨hl, hh⟩ := a2
    refine ⟨hl, ?_⟩
    rcases hh with hh | hh | ⟨b, cap, ex, rest, ty, c1, c2, c3, c4⟩
    · exact .inl hh
    · exact .inr (.inl hh)
    · exact .inr (.inr ⟨b, cap, ex, rest, ty, c1, c2, by rw [hget_set_ne (by omega)]; exact c3, c4⟩)

theorem body28 {t : Nat → V} {h : Hp} {pl : List UInt8} {ov : V} {n : Nat} {ys : List V} {Q : Ex → St → Prop} (ht3 : t 3 = .ptr 0 0) (ht4 : t 4 = .lst true (bytesV pl)) (hpl : pl.length ≤ 3) (hg : hget h 0 = some (.cells [ov] none))
    (hO : Vs.Own h 1 5 true ov n ys) (hov : ov.blk ≠ some 0) (hn : n ≤ 500)
    (hQ1 : ∀ t', pl.length < 3 ∨ n = 500 → Q (.exit 0) { t := t', h, d := [] })
    (hQ2 : ∀ b0 b1 b2 t' v' h', pl = [b0, b1, b2] → n < 500 → Vs.Own h' 1 5 true v' (n + 1) (ys ++ stepV b0 b1 b2 n) → hget h' 0 = some (.cells [v'] none) → v'.blk ≠ some 0 → h.length ≤ h'.length → Q .normal { t := t', h := h', d := [] }) : vc CX B28 Q { t, h, d := [] } := by
  have hov1 : ov.one = true ∧ ov.cells = [ov] := by
    obtain ⟨hl, ⟨rfl, rfl⟩ | ⟨rfl, rfl⟩ | ⟨b, cap, ex, rest, ty, rfl, _⟩⟩ := hO <;> exact ⟨rfl, rfl⟩
  have hrd : rd h (.ptr 0 0) 1 = some [ov] := by simp [rd, hg, sub]
  have hlen : (bytesV pl).length = pl.length := by simp [bytesV]
  have hl1 : lenV h .slc (.lst true (bytesV pl)) = some (.int .i64 pl.length) := by simp [lenV, hlen]
  have hl2 := own_len hO
  by_cases hp : pl.length < 3
  · have hp' : (pl.length : Int) < 3 := by omega
    simp [B28, ht3, ht4, hl1, hp']
    exact hQ1 _ (.inl hp)
  · have hp' : ¬ (pl.length : Int) < 3 := by omega
    have hp2 : (3 : Int) ≤ pl.length := by omega
    by_cases h5 : n = 500
    · subst h5
      simp [B28, ht3, ht4, hl1, hp', hp2, hrd, asV, hl2]
      exact hQ1 _ (.inr rfl)
    · have h5' : ¬ (n : Int) = 500 := by omega
      obtain ⟨b0, b1, b2, rfl⟩ : ∃ b0 b1 b2, pl = [b0, b1, b2] := by
        match pl, hp, hpl with
        | [a, b, c], _, _ => exact ⟨a, b, c, rfl⟩
        | [], hp, _ => simp at hp
        | [_], hp, _ => simp at hp
        | [_, _], hp, _ => simp at hp
        | _ :: _ :: _ :: _ :: _, _, h => simp at h
      have h5b : ((n : Int) == 500) = false := by simp; omega
      have a0 : iadV 1 (.lst true (bytesV [b0, b1, b2])) (.int .i64 0) = some (.fp [.int .u8 b0.toNat] 0) := by simp [iadV, bytesV, V.cells]
      have a1 : iadV 1 (.lst true (bytesV [b0, b1, b2])) (.int .i64 1) = some (.fp [.int .u8 b1.toNat] 0) := by simp [iadV, bytesV, V.cells]
      have a2 : iadV 1 (.lst true (bytesV [b0, b1, b2])) (.int .i64 2) = some (.fp [.int .u8 b2.toNat] 0) := by simp [iadV, bytesV, V.cells]
      have r0 : rd h (.fp [.int .u8 b0.toNat] 0) 1 = some [.int .u8 b0.toNat] := rfl
      have r1 : rd h (.fp [.int .u8 b1.toNat] 0) 1 = some [.int .u8 b1.toNat] := rfl
      have r2 : rd h (.fp [.int .u8 b2.toNat] 0) 1 = some [.int .u8 b2.toNat] := rfl
      simp [B28, ht3, ht4, hl1, hp', hp2, hrd, asV, hl2, h5', h5b, wanted, a0, a1, a2, r0, r1, r2]
      refine com28 (b0 := b0) (b1 := b1) (b2 := b2) (by simp [ht3]) (by simp) (by simp) (by simp) (by simp) hg hO hov (by omega) fun t' v' h' c1 c2 c3 c4 => ?_
      exact hQ2 b0 b1 b2 t' v' h' rfl (by omega) c1 c2 c3 c4

def decCells (s : List UInt8) : Nat → List V
  | 0 => []
  | k + 1 => decCells s k ++ stepV (s.getD (3 * k) 0) (s.getD (3 * k + 1) 0) (s.getD (3 * k + 2) 0) k

def cellsP (s : List UInt8) (pre : List (Pc s.length 3)) : List V := pre.zipIdx.flatMap fun p => stepV (s.getD (3 * p.1.1) 0) (s.getD (3 * p.1.1 + 1) 0) (s.getD (3 * p.1.1 + 2) 0) p.2
theorem cellsP_snoc (s : List UInt8) (pre : List (Pc s.length 3)) (e : Pc s.length 3) :
    cellsP s (pre ++ [e]) = cellsP s pre ++ stepV (s.getD (3 * e.1) 0) (s.getD (3 * e.1 + 1) 0) (s.getD (3 * e.1 + 2) 0) pre.length := by
  simp [cellsP, List.zipIdx_append]
theorem cellsP_upto (s : List UInt8) : ∀ {k : Nat}, (k = 0 ∨ (k - 1) * 3 < s.length) → cellsP s (upto s.length 3 k) = decCells s k
  | 0, _ => rfl
  | k + 1, h => by
    have h' : k * 3 < s.length := by omega
    have h2 : k = 0 ∨ (k - 1) * 3 < s.length := by omega
    rw [upto_succ h', cellsP_snoc, cellsP_upto s h2, upto_length h2]
    rfl

def keepV (ov : V) (h : Hp) : Hp := h.mapIdx fun i b => if i = 0 ∨ ov.blk = some i then b else none
theorem keepV_get (ov : V) (h : Hp) (i : Nat) : hget (keepV ov h) i = if i = 0 ∨ ov.blk = some i then hget h i else none := by
  unfold keepV hget
  rw [List.getElem?_mapIdx]
  cases h[i]? with
  | none => simp
  | some b => simp only [Option.map_some, Option.join_some]
theorem hget_some {h : Hp} {β : Nat} {y : Blk} : h[β]? = some (some y) ↔ hget h β = some y := by
  unfold hget
  cases h[β]? with
  | none => simp
  | some b => simp
theorem keepV_fg (ov : V) (h : Hp) : Fg h (keepV ov h) := by
  refine ⟨by simp [keepV], fun β y hy => ?_⟩
  rw [hget_some] at hy ⊢
  rw [keepV_get] at hy
  split at hy
  · exact hy
  · cases hy

/-- What is held between two pieces. -/
def Held (ys : List V) (n : Nat) (h : Hp) : Prop :=
  ∃ ov, hget h 0 = some (.cells [ov] none) ∧ Vs.Own h 1 5 true ov n ys ∧ ov.blk ≠ some 0 ∧ (n = 0 → ov = .nsl)

theorem Held.keep {ys : List V} {n : Nat} {h : Hp} {ov : V} (hg : hget h 0 = some (.cells [ov] none)) (hO : Vs.Own h 1 5 true ov n ys) (hb : ov.blk ≠ some 0) (h0 : n = 0 → ov = .nsl) :
    FullFrom 1 (keepV ov h) ∧ Held ys n (keepV ov h) := by
  refine ⟨fun β b hβ hb' => ?_, ov, by rw [keepV_get, if_pos (.inl rfl)]; exact hg, ⟨hO.1, ?_⟩, hb, h0⟩
  · rw [hget_some, keepV_get] at hb'
    split at hb'
    · rename_i hc
      rcases hc with hc | hc
      · omega
      · obtain ⟨hl, ⟨rfl, _⟩ | ⟨rfl, _⟩ | ⟨b', cap, ex, rest, ty, rfl, c2, c3, c4⟩⟩ := hO
        · simp [V.blk] at hc
        · simp [V.blk] at hc
        · simp [V.blk] at hc
          subst hc
          rw [c3] at hb'; cases hb'
          have hn : n ≠ 0 := fun e => by have := h0 e; cases this
          match hm : ys ++ rest with
          | [] =>
            have := congrArg List.length hm
            rw [List.length_append, hl] at this
            simp at this; omega
          | _ :: _ => rfl
    · cases hb'
  · rcases hO.2 with hh | hh | ⟨b, cap, ex, rest, ty, c1, c2, c3, c4⟩
    · exact .inl hh
    · exact .inr (.inl hh)
    · exact .inr (.inr ⟨b, cap, ex, rest, ty, c1, c2, by rw [keepV_get, if_pos (.inr (by rw [c1]; rfl))]; exact c3, c4⟩)

theorem take3 {s : List UInt8} {k : Nat} {b0 b1 b2 : UInt8} (h : (s.drop (k * 3)).take 3 = [b0, b1, b2]) : s.getD (3 * k) 0 = b0 ∧ s.getD (3 * k + 1) 0 = b1 ∧ s.getD (3 * k + 2) 0 = b2 ∧ 3 * k + 3 ≤ s.length := by
  have hl := congrArg List.length h
  simp at hl
  have g : ∀ j, j < 3 → ((s.drop (k * 3)).take 3)[j]? = s[3 * k + j]? := fun j hj => by
    rw [List.getElem?_take_of_lt hj, List.getElem?_drop, Nat.mul_comm]
  have g0 := g 0 (by omega); have g1 := g 1 (by omega); have g2 := g 2 (by omega)
  rw [h] at g0 g1 g2
  simp at g0 g1 g2
  refine ⟨?_, ?_, ?_, by omega⟩
  · rw [List.getD_eq_getElem?_getD, ← g0]; rfl
  · rw [List.getD_eq_getElem?_getD, ← g1]; rfl
  · rw [List.getD_eq_getElem?_getD, ← g2]; rfl

def Inv28 (s : List UInt8) (pre : List (Pc s.length 3)) (h : Hp) : Prop :=
  FullFrom 1 h ∧ Held (cellsP s pre) pre.length h ∧ pre.length ≤ 500 ∧ ∀ e ∈ pre, 3 * e.1 + 3 ≤ s.length
def InvX28 (s : List UInt8) (id : Nat) (xs : List (Pc s.length 3)) (h : Hp) : Prop :=
  id = 0 ∧ ∃ pre e, xs = pre ++ [e] ∧ Held (cellsP s pre) pre.length h ∧ pre.length ≤ 500 ∧ (∀ e ∈ pre, 3 * e.1 + 3 ≤ s.length) ∧ (s.length < 3 * e.1 + 3 ∨ pre.length = 500)

theorem round28 {s : List UInt8} {t : Nat → V} (ht3 : t 3 = .ptr 0 0) (pre : List (Pc s.length 3)) (e : Pc s.length 3) (h : Hp) (hi : Inv28 s pre h) :
    vc CX B28 (rfPost 1 (Inv28 s) (InvX28 s) (pre ++ [e])) { t := put (put t (some 8) (pieceV s 3 e.1)) (some 4) (pieceV s 3 e.1), h, d := [] } := by
  obtain ⟨hf, ⟨ov, hg, hO, hb, h0⟩, hn, hall⟩ := hi
  refine body28 (pl := (s.drop (e.1 * 3)).take 3) (ov := ov) (by simp [ht3]) (by simp [pieceV]) (by simp; omega) hg hO hb hn (fun t' hx => ?_) (fun b0 b1 b2 t' v' h' hp hn' c1 c2 c3 c4 => ?_)
  · refine ⟨h, ⟨rfl, fun β y hy => hy⟩, hf, rfl, pre, e, rfl, ⟨ov, hg, hO, hb, h0⟩, hn, hall, ?_⟩
    rcases hx with hx | hx
    · left; simp at hx; have := e.2; omega
    · exact .inr hx
  · obtain ⟨d0, d1, d2, d3⟩ := take3 hp
    subst d0; subst d1; subst d2
    obtain ⟨k1, k2⟩ := Held.keep c2 c1 c3 (by omega)
    refine ⟨keepV v' h', keepV_fg v' h', k1, k1, ?_, by simp; omega, fun e' he' => ?_⟩
    · rw [cellsP_snoc, List.length_append]
      exact k2
    · rcases List.mem_append.1 he' with he' | he'
      · exact hall e' he'
      · simp at he'; subst he'; exact d3

theorem fin28 {s : List UInt8} {h : Hp} : (∃ xs, (∃ q, xs = upto s.length 3 q ∧ s.length ≤ q * 3 ∧ (q = 0 ∨ (q - 1) * 3 < s.length)) ∧ Inv28 s xs h) ∨ (∃ id pre, (∃ k, k * 3 < s.length ∧ pre = upto s.length 3 (k + 1)) ∧ InvX28 s id pre h) →
    Held (decCells s (min (s.length / 3) 500)) (min (s.length / 3) 500) h := by
  rintro (⟨xs, ⟨q, rfl, h1, h2⟩, _, h3, h4, h5⟩ | ⟨id, xs, ⟨k, h1, rfl⟩, _, pre, e, h2, h3, h4, h5, h6⟩)
  · rw [upto_length h2, cellsP_upto s h2] at h3
    rw [upto_length h2] at h4
    have : min (s.length / 3) 500 = q := by
      rcases Nat.eq_zero_or_pos q with hq | hq
      · subst hq; omega
      · obtain ⟨q, rfl⟩ : ∃ q', q = q' + 1 := ⟨q - 1, by omega⟩
        have hlt : q * 3 < s.length := by omega
        have hm : (⟨q, hlt⟩ : Pc s.length 3) ∈ upto s.length 3 (q + 1) := by rw [upto_succ hlt]; simp
        have := h5 _ hm
        simp only at this
        omega
    rw [this]; exact h3
  · rw [upto_succ h1] at h2
    obtain ⟨e1, e2⟩ := List.append_inj' h2 rfl
    simp at e2
    subst e1; subst e2
    have hk : k = 0 ∨ (k - 1) * 3 < s.length := by omega
    rw [upto_length hk, cellsP_upto s hk] at h3
    rw [upto_length hk] at h4 h6
    have : min (s.length / 3) 500 = k := by
      have hfull : k ≠ 0 → 3 * (k - 1) + 3 ≤ s.length := fun hk0 => by
        obtain ⟨k, rfl⟩ : ∃ k', k = k' + 1 := ⟨k - 1, by omega⟩
        have hlt : k * 3 < s.length := by omega
        exact h5 ⟨k, hlt⟩ (by rw [upto_succ hlt]; simp)
      simp only at h6
      omega
    rw [this]; exact h3

theorem VR.fn2 {E : Env} {f : Fn} {x y : V} {u : Value} (h : VR E (.fn f [] [x, y]) u) : ∃ p q, u = .func f #[] #[p, q] ∧ VR E x p ∧ VR E y q := by
  cases h with
  | fn _ _ _ a b h1 h2 h3 h4 =>
    have ha : a = #[] := Array.eq_empty_of_size_eq_zero (by simpa using h1)
    subst ha
    obtain ⟨l⟩ := b
    match l, h2 with
    | [p, q], _ => exact ⟨p, q, rfl, h4 0 x p rfl rfl, h4 1 y q rfl rfl⟩
    | [], h2 => simp at h2
    | [_], h2 => simp at h2
    | _ :: _ :: _ :: _, h2 => simp at h2

theorem Held.last {ys : List V} {n : Nat} {h : Hp} {t : Nat → V} (ht : t 3 = .ptr 0 0) (H : Held ys n h) :
    vops CX (fun e s' => e = .normal ∧ s'.d = [] ∧ ∃ v, resV [.t 2] s'.t s'.h = some v ∧ (fun r h' => ∃ ov, r = Res.ret ov ∧ Vs.Own h' 0 5 true ov n ys ∧ (n = 0 → ov = .nsl)) (.ret v) s'.h)
      [⟨(some 44), (.load 1 false (.t 3)), none⟩, ⟨(some 2), (.mov (.t 44)), none⟩] { t, h, d := [] } := by
  obtain ⟨ov, hg, hO, hb, h0⟩ := H
  have hrd : rd h (.ptr 0 0) 1 = some [ov] := by simp [rd, hg, sub]
  simp [ht, hrd, asV]
  refine ⟨⟨hO.1, ?_⟩, h0⟩
  rcases hO.2 with hh | hh | ⟨b, cap, ex, rest, ty, c1, c2, c3, c4⟩
  · exact .inl hh
  · exact .inr (.inl hh)
  · exact .inr (.inr ⟨b, cap, ex, rest, ty, c1, Nat.zero_le _, c3, c4⟩)

set_option maxHeartbeats 2000000 in
theorem decode0 {s : List UInt8} {v : V} (hs : BytesV v s) (hsz : s.length < 2 ^ 40) : ACalls CX 28 [v] [] fun r h' => ∃ ov, r = .ret ov ∧ Vs.Own h' 0 5 true ov (min (s.length / 3) 500) (decCells s (min (s.length / 3) 500)) ∧ (min (s.length / 3) 500 = 0 → ov = .nsl) := by
  obtain ⟨r0, r1, r2, bd, ops, ty, pos, af, hb, k0, k1, k2, kb, kn, k7⟩ := dec_shape
  have hv1 : v.cells = [v] ∧ v.one = true ∧ Low 0 v := by
    rcases hs with ⟨rfl, _⟩ | ⟨ex, rfl⟩
    · exact ⟨rfl, rfl, .nsl⟩
    · exact ⟨rfl, rfl, .lst _ _ (by rw [flat_bytes]; exact bytesV_low s)⟩
  refine acallsM (fn := Tryz.f28) Tryz.func28 hb callable28 (rs := [.t 2]) ckrs28 (by show [v].length ≤ 45; simp) (n := 9) fun w0 E a w H => ?_
  refine seq_told CX.ok k0 (Le.refl E) H (R := fun s' => s'.d = [] ∧ s'.h = [] ∧ s'.t 0 = v) (by simp) fun E1 s1 a1 w1 hE1 H1 ⟨d1, g1, t1⟩ => ?_
  refine seq_told CX.ok k1 hE1 H1 (R := fun s' => s'.d = [] ∧ s'.h = [some (.cells [.nsl] none)] ∧ s'.t 0 = v ∧ s'.t 3 = .ptr 0 0) (by simp [d1, g1, t1]) fun E2 s2 a2 w2 hE2 H2 ⟨d2, g2, t2, p2⟩ => ?_
  refine wpIn_seq ?_
  refine seq_told (R := fun s' => s'.d = [] ∧ s'.h = [some (.cells [.nsl] none)] ∧ s'.t 3 = .ptr 0 0 ∧ s'.t 7 = .fn (.func 110) [] [.fp [v] 0, .fp [.int .i64 (3 : Nat)] 0]) CX.ok k2 hE2 H2 ?_ fun E3 s3 a3 w3 hE3 H3 ⟨d3, g3, p3, q3⟩ => ?_
  · simp [t2, d2, g2, p2]
    refine (chunk_spec (h := [some (.cells [.nsl] none)]) (c := 3) (by omega) hv1.1 hv1.2.1 (Low.mono (Nat.zero_le _) hv1.2.2) (fun β hβ b hb => ?_)).mono ?_
    · have : β = 0 := by simp at hβ; omega
      subst this
      simp [hget] at hb; subst hb
      intro c hc; simp at hc; subst hc; exact .nsl
    · rintro r h' ⟨rfl, rfl⟩
      simp [p2]
  obtain ⟨pc, pn, hu, hpc, hpn⟩ := VR.fn2 (q3 ▸ H3.tm 7)
  obtain ⟨b, p, sv, rfl, hf1, hsv⟩ := VR.fp_one hpc
  obtain ⟨b', p', sv', rfl, hf2, hsv'⟩ := VR.fp_one hpn
  cases hsv'
  obtain ⟨vl, hX, hseq⟩ := chunk_stops (E := E3) (c := 3) (by omega) hs (by omega) hf1 hsv hf2 (w := w3) (fun b o v h => H3.sr.frz b o v h) 8 (by omega)
  have hlen : s3.h.length = 1 := by rw [g3]; rfl
  have last : ∀ (D : Nat) (W : World) (Y : Hp → Prop), (∀ h', Y h' → Held (decCells s (min (s.length / 3) 500)) (min (s.length / 3) 500) h') → W.heap[D]? = some (.deferred (some [])) → rfDone w0 E3 D Y W →
      (Code.seq (.region 7 ops false) .ret).wpIn Fence.wide 9 CX.P (RfPost CX w0 Tryz.f28.ntmps E [.t 2] fun r h' => ∃ ov, r = .ret ov ∧ Vs.Own h' 0 5 true ov (min (s.length / 3) 500) (decCells s (min (s.length / 3) 500)) ∧ (min (s.length / 3) 500 = 0 → ov = .nsl))
        (Tl [Vs.mark D] a3) W := by
    rintro D W Y hY hK ⟨E', h', b1, b2, b3, b4⟩
    refine last_wp CX.ok k7 (hE3.trans b1) (s := { t := s3.t, h := h', d := [] }) ⟨b2, H3.gr.mono b1, fun k => (H3.tm k).mono b1, H3.sz, ?_⟩ rfl hK b3 ((hY h' b4).last p3)
    rw [H3.noD d3]; exact ⟨rfl, fun j d u hd => by simp at hd⟩
  refine wpIn_block (Code.wpIn_mono (fun e a' W ⟨D, ha, hK, hcs⟩ => ?main) (rf_wp CX.ok (g := .tmp 7) (n := 9) (p := 8) (t := 4) (by omega) H3 (by show 8 < 45; omega) (by show 4 < 45; omega) (show a3.eval (.tmp 7) = _ from hu) (enters_of Tryz.func110 (by kernel_rfl) rfl) hX hseq
    (fun l v tmps W K hv hK => assign_wp hv hK) kb kn (fun β b hβ hb => by rw [List.getElem?_eq_none hβ] at hb; cases hb) (Inv28 s) (InvX28 s) ?inv (fun pre e h hi _ => by rw [hlen]; exact round28 p3 pre e h hi)))
  case main =>
    have ha' : a' = Tl [Vs.mark D] a3 := by rw [ha]; simp [Tl, Vs.mark, H3.noD d3]
    subst ha'
    rcases hcs with ⟨rfl, xs, hS, hd⟩ | ⟨id, pre, rfl, hS, hd⟩
    · exact last D W _ (fun h' hY => fin28 (.inl ⟨xs, hS, hY⟩)) hK hd
    · obtain ⟨E', h', b1, b2, b3, b4⟩ := hd
      have hid : id = 0 := b4.1
      subst hid
      exact last D W _ (fun h' hY => fin28 (.inr ⟨0, pre, hS, hY⟩)) hK ⟨E', h', b1, b2, b3, b4⟩
  case inv =>
    rw [g3]
    refine ⟨fun β b hβ hb => ?_, ⟨.nsl, rfl, ⟨rfl, .inl ⟨rfl, rfl⟩⟩, by simp [V.blk], fun _ => rfl⟩, by simp, by simp⟩
    rw [List.getElem?_eq_none (by simpa using hβ)] at hb; cases hb

/-- What bytes say, told. -/
def decodeV (s : List UInt8) : V := match min (s.length / 3) 500 with
  | 0 => .nsl
  | k + 1 => .lst false (chunk 5 true (k + 1) (decCells s (k + 1)))

theorem stepV_low {b0 b1 b2 : UInt8} {n : Nat} : ∀ y ∈ stepV b0 b1 b2 n, y.one = true ∧ Low 0 y := by
  intro y hy
  simp only [stepV, List.mem_cons, List.not_mem_nil, or_false] at hy
  rcases hy with rfl | rfl | rfl | rfl | rfl
  · exact ⟨rfl, .int _ _⟩
  · exact ⟨rfl, .int _ _⟩
  · exact ⟨rfl, .int _ _⟩
  · exact ⟨rfl, .int _ _⟩
  · exact ⟨rfl, .str _⟩
theorem decCells_low (s : List UInt8) : ∀ k, ∀ y ∈ decCells s k, y.one = true ∧ Low 0 y
  | 0, y, hy => by cases hy
  | k + 1, y, hy => by
    rcases List.mem_append.1 hy with hy | hy
    · exact decCells_low s k y hy
    · exact stepV_low y hy

theorem decode_spec {s : List UInt8} {v : V} (hs : BytesV v s) (hsz : s.length < 2 ^ 40) : PCalls CX 28 [v] fun r => r = .ret (decodeV s) := by
  refine (decode0 hs hsz).ice ?_
  rintro r h' ⟨ov, rfl, hO, h0⟩
  refine ⟨Nat.zero_le _, LowH.zero _, .ret (decodeV s), ?_, rfl, by simp⟩
  show Ice h' 0 ov (decodeV s)
  obtain ⟨hl, ⟨rfl, hn⟩ | ⟨rfl, hn⟩ | ⟨b, cap, ex, rest, ty, rfl, hb, hg, hc, hce⟩⟩ := hO
  · unfold decodeV; rw [hn]; exact .low _ .nsl
  · cases h0 hn
  · have hne : min (s.length / 3) 500 ≠ 0 := fun e => by cases h0 e
    obtain ⟨k, hk⟩ : ∃ k, min (s.length / 3) 500 = k + 1 := ⟨_, (Nat.succ_pred hne).symm⟩
    unfold decodeV
    rw [hk] at hl hg ⊢
    refine .sl b 0 (k + 1) cap ex 5 true _ ty (decCells s (k + 1)) (decCells s (k + 1)) hb hg (by simp [sub, ← hl]) (fun e => by cases e) rfl (fun j x y hx hy => ?_) (fun y hy => (decCells_low s _ y hy).1)
    rw [hx] at hy; cases hy
    exact .low _ (decCells_low s _ _ (List.mem_of_getElem? hx)).2
end Go.Proofs.YtbabpibaccngnaaGreat
