/- mac.Keys: what comes of Expand's bytes. -/
import Derived.Test.YtfinnljkcgglfaaDoorZiDecode
import Derived.Test.YtfinnljkcgglfaaDoorZv6
namespace Go.Proofs.YtfinnljkcgglfaaDoor
open Go Go.Vs Go.RowKit
set_option maxRecDepth 100000
set_option linter.unusedSimpArgs false
set_option linter.unusedVariables false
attribute [local simp] unV extV wanted strBin vpt vpn vmp nilV_ptr

/-- 11: the body of a loop over a function -/
def B11 : C :=
 (.block 1
 (.dreg [⟨some 30, .load 1 false (.t 10), none⟩,
 ⟨some 31, .mov (.t 11), none⟩,
 ⟨some 32, .arrp 32 1 (.t 31), none⟩,
 ⟨some 33, .load 32 true (.t 32), none⟩,
 ⟨some 34, .mks true 32 32 true [(.int .u8 0), (.int .u8 0), (.int .u8 0), (.int .u8 0), (.int .u8 0), (.int .u8 0), (.int .u8 0), (.int .u8 0), (.int .u8 0), (.int .u8 0), (.int .u8 0), (.int .u8 0), (.int .u8 0), (.int .u8 0), (.int .u8 0), (.int .u8 0), (.int .u8 0), (.int .u8 0), (.int .u8 0), (.int .u8 0), (.int .u8 0), (.int .u8 0), (.int .u8 0), (.int .u8 0), (.int .u8 0), (.int .u8 0), (.int .u8 0), (.int .u8 0), (.int .u8 0), (.int .u8 0), (.int .u8 0), (.int .u8 0)] 1 [(0, (.t 33))], none⟩,
 ⟨some 35, .app 32 32 true none (.t 30) (.t 34), none⟩,
 ⟨none, .store 1 (.t 10) (.t 35), none⟩] (.lin [] [(0, none), (1, none), (2, none), (3, none), (4, none), (5, some []), (6, some [])])))

theorem callableK : callable DX.P 81 = true := by kernel_rfl
theorem keys_shape : ∃ r0 r1 r2 r3 r4 bd ops ty pos af i1 i2, Tryd.f81.body = some (.seq r0 (.seq r1 (.seq r2 (.seq r3 (.seq (.seq r4 (.block 0 (.rangeFunc (.tmp 28) #[29] (.region i1 #[{ dst := some 11, op := .assign (.tmp 29), type := ty, pos := pos, after := af, guard := none }] false) bd))) (.seq (.region i2 ops false) .ret)))))) ∧
    ckC DX.P 38 r0 (.reg [⟨(some 3), (.box none (.t 0)), none⟩, ⟨(some 6), (.mov (.k .nsl)), none⟩, ⟨(some 7), (.mov (.k (.int .i64 0))), none⟩]) = true ∧
    ckC DX.P 38 r1 (.seq (.reg [⟨(some 12), (.mov (.t 2)), none⟩,
      ⟨(some 13), (.bin .lss .num (.t 12) (.k (.int .i64 1))), none⟩,
      ⟨(some 14), (.mov (.t 13)), none⟩,
      ⟨(some 15), (.mov (.t 2)), some (14, false)⟩,
      ⟨(some 16), (.bin .gtr .num (.t 15) (.k (.int .i64 3))), some (14, false)⟩,
      ⟨(some 17), (.pick (.t 14) (.k (.bool true)) (.t 16)), none⟩])
    (.cond (.t 17)
      (.seq (.reg [⟨(some 6), (.mov (.k .nsl)), none⟩,
        ⟨(some 7), (.mov (.k (.int .i64 2))), none⟩])
      .ret)
      .skip)) = true ∧
    ckC DX.P 38 r2 (.reg [⟨(some 19), (.slca 32 1 false (.t 3) none none none), none⟩,
      ⟨(some 20), (.mov (.t 1)), none⟩,
      ⟨(some 21), (.call (.k (.fn (.func 84) [] [])) [(.t 19), (.t 20)]), none⟩,
      ⟨(some 22), (.mov (.t 2)), none⟩,
      ⟨(some 23), (.bin .mul .num (.t 22) (.k (.int .i64 32))), none⟩,
      ⟨(some 24), (.call (.k (.fn (.func 83) [] [])) [(.t 21), (.k .nsl), (.t 23)]), none⟩,
      ⟨(some 18), (.mov (.t 24)), none⟩,
      ⟨(some 25), (.ext (.t 18) 0), none⟩,
      ⟨(some 26), (.ext (.t 18) 1), none⟩,
      ⟨(some 8), (.mov (.t 25)), none⟩,
      ⟨(some 9), (.mov (.t 26)), none⟩]) = true ∧
    ckC DX.P 38 r3 (.reg [⟨(some 10), (.new [.nsl] none), none⟩]) = true ∧
    ckC DX.P 38 r4 (.reg [⟨(some 27), (.mov (.t 8)), none⟩,
      ⟨(some 28), (.call (.k (.fn (.func 85) [] [])) [(.t 27), (.k (.int .i64 32))]), none⟩]) = true ∧
    ckC DX.P 38 bd B11 = true ∧ noDs bd = true ∧ ckAs DX.P 38 ops ops.toList [⟨(some 36), (.load 1 false (.t 10)), none⟩,
      ⟨(some 37), (.mov (.t 9)), none⟩,
      ⟨(some 6), (.mov (.t 36)), none⟩,
      ⟨(some 7), (.mov (.t 37)), none⟩] = true :=
  ⟨_, _, _, _, _, _, _, _, _, _, _, _, rfl, by kernel_rfl, by kernel_rfl, by kernel_rfl, by kernel_rfl, by kernel_rfl, by kernel_rfl, by kernel_rfl, by kernel_rfl⟩
theorem ckrsK : ckRs DX.P Tryd.f81.results.toList [.t 6, .t 7] = true := by kernel_rfl

theorem VR.fn2 {E : Env} {f : Fn} {x y : V} {u : Value} (h : VR E (.fn f [] [x, y]) u) : ∃ p q, u = .func f #[] #[p, q] ∧ VR E x p ∧ VR E y q := by
  cases h with
  | fn _ _ _ a b h1 h2 h3 h4 =>
    have ha : a = #[] := Array.eq_empty_of_size_eq_zero (by simpa using h1)
    subst ha
    obtain ⟨l⟩ := b
    match l, h2 with
    | [p, q], _ => exact ⟨p, q, rfl, h4 0 x p rfl rfl, h4 1 y q rfl rfl⟩
    | [], h2 => simp at h2
    | [_], h2 => simp at h2
    | _ :: _ :: _ :: _, h2 => simp at h2

def keepV (ov : V) (h : Hp) : Hp := h.mapIdx fun i b => if i < 2 ∨ ov.blk = some i then b else none
theorem keepV_get (ov : V) (h : Hp) (i : Nat) : hget (keepV ov h) i = if i < 2 ∨ ov.blk = some i then hget h i else none := by
  unfold keepV hget
  rw [List.getElem?_mapIdx]
  cases h[i]? with
  | none => simp
  | some b => simp only [Option.map_some, Option.join_some]
theorem hget_some {h : Hp} {β : Nat} {y : Blk} : h[β]? = some (some y) ↔ hget h β = some y := by
  unfold hget
  cases h[β]? with
  | none => simp
  | some b => simp
theorem keepV_fg (ov : V) (h : Hp) : Fg h (keepV ov h) := by
  refine ⟨by simp [keepV], fun β y hy => ?_⟩
  rw [hget_some] at hy ⊢
  rw [keepV_get] at hy
  split at hy
  · exact hy
  · cases hy

/-- What is held between two pieces. -/
def Held (ys : List V) (n : Nat) (h : Hp) : Prop :=
  ∃ ov, hget h 1 = some (.cells [ov] none) ∧ Vs.Own h 2 32 true ov n ys ∧ (n = 0 → ov = .nsl)

theorem Held.keep {ys : List V} {n : Nat} {h : Hp} {ov : V} (hg : hget h 1 = some (.cells [ov] none)) (hO : Vs.Own h 2 32 true ov n ys) (h0 : n = 0 → ov = .nsl) :
    FullFrom 2 (keepV ov h) ∧ Held ys n (keepV ov h) := by
  refine ⟨fun β b hβ hb' => ?_, ov, by rw [keepV_get, if_pos (.inl (by omega))]; exact hg, ⟨hO.1, ?_⟩, h0⟩
  · rw [hget_some, keepV_get] at hb'
    split at hb'
    · rename_i hc
      rcases hc with hc | hc
      · omega
      · obtain ⟨hl, ⟨rfl, _⟩ | ⟨rfl, _⟩ | ⟨b', cap, ex, rest, ty, rfl, c2, c3, c4⟩⟩ := hO
        · simp [V.blk] at hc
        · simp [V.blk] at hc
        · simp [V.blk] at hc
          subst hc
          rw [c3] at hb'; cases hb'
          have hn : n ≠ 0 := fun e => by have := h0 e; cases this
          match hm : ys ++ rest with
          | [] =>
            have := congrArg List.length hm
            rw [List.length_append, hl] at this
            simp at this; omega
          | _ :: _ => rfl
    · cases hb'
  · rcases hO.2 with hh | hh | ⟨b, cap, ex, rest, ty, c1, c2, c3, c4⟩
    · exact .inl hh
    · exact .inr (.inl hh)
    · exact .inr (.inr ⟨b, cap, ex, rest, ty, c1, c2, by rw [keepV_get, if_pos (.inr (by rw [c1]; rfl))]; exact c3, c4⟩)

def cellsP (s : List UInt8) (pre : List (Pc s.length 32)) : List V := pre.flatMap fun p => bytesV ((s.drop (p.1 * 32)).take 32)
theorem cellsP_upto (s : List UInt8) : ∀ {k : Nat}, (k = 0 ∨ (k - 1) * 32 < s.length) → cellsP s (upto s.length 32 k) = bytesV (s.take (32 * k))
  | 0, _ => by simp [cellsP, upto, bytesV]
  | k + 1, h => by
    have h' : k * 32 < s.length := by omega
    have h2 : k = 0 ∨ (k - 1) * 32 < s.length := by omega
    have e : cellsP s (upto s.length 32 (k + 1)) = cellsP s (upto s.length 32 k) ++ bytesV ((s.drop (k * 32)).take 32) := by rw [upto_succ h']; simp [cellsP]
    rw [e, cellsP_upto s h2, ← bytesV_append]
    congr 1
    rw [show 32 * (k + 1) = 32 * k + 32 by omega, List.take_add, Nat.mul_comm k 32]
def InvK (s : List UInt8) (pre : List (Pc s.length 32)) (h : Hp) : Prop :=
  FullFrom 2 h ∧ Held (cellsP s pre) pre.length h
def InvXK (s : List UInt8) (id : Nat) (xs : List (Pc s.length 32)) (h : Hp) : Prop := False

def arrpV (h : Hp) (n es : Nat) : V → Option Rz
  | .sl b off len _ _ es' _ => if n ≤ len ∧ es' = es ∧ 0 < n then some (.val (.ptr b off) h) else none
  | .lst _ xs => if n ≤ xs.length ∧ 0 < n then some (.val (.fp (flat xs) 0) h) else none
  | _ => none
theorem aop_arrpV {x : X} {t : Nat → V} {h : Hp} (n es : Nat) (a : O) : aop x t h (.arrp n es a) = arrpV h n es (a.ev x t) := by
  simp only [aop, arrpV]
  generalize a.ev x t = u
  cases u <;> rfl

def slcaVV (h : Hp) (n es : Nat) (ag : Bool) : V → Option Rz
  | .ptr b o => if (rd h (.ptr b o) (n * es)).isSome then some (.val (.sl b (o + 0 * es) (n - 0) (n - 0) true es ag) h) else none
  | .fp cs o => (sub cs o (n * es)).map fun c => .val (.lst (n == n) (((chunk es ag n c).take n).drop 0)) h
  | _ => none
theorem aop_slcaV {x : X} {t : Nat → V} {h : Hp} (n es : Nat) (ag : Bool) (a : O) : aop x t h (.slca n es ag a none none none) = slcaVV h n es ag (a.ev x t) := by
  simp only [aop, slcaVV, bnd]
  rw [if_pos ⟨Nat.zero_le _, Nat.le_refl _, Nat.le_refl _⟩]
  generalize a.ev x t = u
  cases u <;> rfl

theorem bodyK {t : Nat → V} {h : Hp} {pl : List UInt8} {ov : V} {k : Nat} {ys : List V} {Q : Ex → St → Prop} (ht10 : t 10 = .ptr 1 0) (ht11 : t 11 = .lst true (bytesV pl)) (hpl : pl.length = 32) (hg : hget h 1 = some (.cells [ov] none))
    (hO : Vs.Own h 2 32 true ov k ys) (hk : k ≤ 200)
    (hQ : ∀ t' v' h', Vs.Own h' 2 32 true v' (k + 1) (ys ++ bytesV pl) → hget h' 1 = some (.cells [v'] none) → h.length ≤ h'.length → Q .normal { t := t', h := h', d := [] }) : vc DX B11 Q { t, h, d := [] } := by
  have q0 := rd_cell hg 0
  simp [sub] at q0
  have hlen : (bytesV pl).length = 32 := by simp [bytesV, hpl]
  have hfl := flat_bytes pl
  have e1 : arrpV h 32 1 (.lst true (bytesV pl)) = some (.val (.fp (bytesV pl) 0) h) := by
    simp only [arrpV, hlen, hfl]
    rw [if_pos ⟨Nat.le_refl _, by omega⟩]
  have e2 : rd h (.fp (bytesV pl) 0) 32 = some (bytesV pl) := by
    simp only [rd, sub]
    rw [if_pos (by omega)]
    simp [hlen, List.take_of_length_le]
  have hone : ∀ y ∈ bytesV pl, y.one = true := bytesV_one pl
  have e3 : fillV (List.replicate 32 (.int .u8 0)) [(0, 32, .agg (bytesV pl))] = some (bytesV pl) := by
    obtain ⟨a, b⟩ : ∃ l : List V, bytesV pl = l ∧ l.length = 32 ∧ ∀ y ∈ l, y.one = true := ⟨_, rfl, hlen, hone⟩
    simp only [fillV, V.cells, hlen]
    rw [if_pos ⟨trivial, by simp, hone⟩]
    rw [setAll_eq _ _ _ (by simp [hlen])]
    simp [hlen]
  have e3' : fillV [.int .u8 0, .int .u8 0, .int .u8 0, .int .u8 0, .int .u8 0, .int .u8 0, .int .u8 0, .int .u8 0, .int .u8 0, .int .u8 0, .int .u8 0, .int .u8 0, .int .u8 0, .int .u8 0, .int .u8 0, .int .u8 0, .int .u8 0, .int .u8 0, .int .u8 0, .int .u8 0, .int .u8 0, .int .u8 0, .int .u8 0, .int .u8 0, .int .u8 0, .int .u8 0, .int .u8 0, .int .u8 0, .int .u8 0, .int .u8 0, .int .u8 0, .int .u8 0] [(0, 32, .agg (bytesV pl))] = some (bytesV pl) := e3
  have e4 : chunk 32 true 1 (bytesV pl) = [.agg (bytesV pl)] := by simp [chunk, List.take_of_length_le, hlen]
  obtain ⟨v', h', a1, a2, a3, a4, a5, a6⟩ := Own.app (h := h) (k := 2) (es := 32) (bt := 32) (ag := true) (ty := none) (v := ov) (a := .lst true [.agg (bytesV pl)]) (m := 1) (zs := bytesV pl) (by have := hget_lt hg; omega) hO (by simp [src, flat, V.cells, hlen]) (by simp [hlen]) (by unfold room; omega)
  have hne : ov.blk ≠ some 1 := fun e => by have := hO.blk_ge e; omega
  have hg' : hget h' 1 = some (.cells [ov] none) := by rw [a4 1 (hget_lt hg) hne]; exact hg
  have one := a2.onec
  have S1 := st_cell hg' (o := 0) one.1 one.2 (by simp)
  simp at S1
  simp [B11]
  refine vD_lin ?_
  simp [reL, vLs, vLg, vLq, dstO, nth_zero, nth_succ, nd, tell, fadV, asV, ht10, ht11, q0, aop_arrpV, e1, e2, e3', e4, a1, S1]
  exact hQ _ v' _ (a2.keepB fun b hb => hget_set_ne (by have := a2.blk_ge hb; omega) _) (hget_set (hget_lt hg') _) (by simpa using a6)

theorem roundK {n : Nat} {s : List UInt8} (hs : s.length = 32 * n) (hn : n ≤ 3) {t : Nat → V} (ht10 : t 10 = .ptr 1 0) (pre : List (Pc s.length 32)) (e : Pc s.length 32) (h : Hp) (hi : InvK s pre h) (hlp : pre.length < s.length) :
    vc DX B11 (rfPost 2 (InvK s) (InvXK s) (pre ++ [e])) { t := put (put t (some 29) (pieceV s 32 e.1)) (some 11) (pieceV s 32 e.1), h, d := [] } := by
  obtain ⟨hf, ov, hg, hO, h0⟩ := hi
  have hlt := e.2
  refine bodyK (pl := (s.drop (e.1 * 32)).take 32) (ov := ov) (k := pre.length) (by simp [ht10]) (by simp [pieceV]) (by simp; omega) hg hO (by omega) (fun t' v' h' c1 c2 c3 => ?_)
  obtain ⟨k1, k2⟩ := Held.keep c2 c1 (by omega)
  refine ⟨keepV v' h', keepV_fg v' h', k1, k1, ?_⟩
  have : cellsP s (pre ++ [e]) = cellsP s pre ++ bytesV ((s.drop (e.1 * 32)).take 32) := by simp [cellsP]
  rw [this, List.length_append]
  exact k2

theorem finK {n : Nat} {s : List UInt8} (hs : s.length = 32 * n) {h : Hp} : (∃ xs, (∃ q, xs = upto s.length 32 q ∧ s.length ≤ q * 32 ∧ (q = 0 ∨ (q - 1) * 32 < s.length)) ∧ InvK s xs h) ∨ (∃ id pre, (∃ k, k * 32 < s.length ∧ pre = upto s.length 32 (k + 1)) ∧ InvXK s id pre h) →
    Held (bytesV s) n h := by
  rintro (⟨xs, ⟨q, rfl, h1, h2⟩, _, h3⟩ | ⟨id, xs, _, hf⟩)
  · rw [upto_length h2, cellsP_upto s h2] at h3
    have : q = n := by omega
    subst this
    rw [List.take_of_length_le (by omega)] at h3
    exact h3
  · exact hf.elim

theorem Held.last {ys : List V} {n : Nat} {h : Hp} {t : Nat → V} (ht : t 10 = .ptr 1 0) (ht9 : t 9 = .int .i64 0) (H : Held ys n h) :
    vops DX (fun e s' => e = .normal ∧ s'.d = [] ∧ ∃ v, resV [.t 6, .t 7] s'.t s'.h = some v ∧ (fun r h' => ∃ ov, r = Res.ret (.tup [ov, .int .i64 0]) ∧ Vs.Own h' 1 32 true ov n ys ∧ (n = 0 → ov = .nsl)) (.ret v) s'.h)
      [⟨(some 36), (.load 1 false (.t 10)), none⟩, ⟨(some 37), (.mov (.t 9)), none⟩, ⟨(some 6), (.mov (.t 36)), none⟩, ⟨(some 7), (.mov (.t 37)), none⟩] { t, h, d := [] } := by
  obtain ⟨ov, hg, hO, h0⟩ := H
  have q0 := rd_cell hg 0
  simp [sub] at q0
  simp [ht, q0, asV, ht9]
  exact ⟨hO.low (by omega), h0⟩

set_option maxHeartbeats 2000000 in
/-- Keys of bytes that Expand tells. -/
theorem keys0 {n : Nat} {s : List UInt8} {key : List V} {b X L : V} (hkl : key.length = 32) (hk1 : ∀ y ∈ key, y.one = true ∧ Low 0 y) (hb : Low 0 b) (hn1 : 1 ≤ n) (hn3 : n ≤ 3) (hL : BytesV L s) (hs : s.length = 32 * n)
    (hE : ACalls DX 84 [.sl 0 0 32 32 true 1 false, b] [some (.cells key none)] fun r h' => r = .ret X ∧ h' = [some (.cells key none)])
    (hX : PCalls DX 83 [X, .nsl, .int .i64 (32 * (n : Int))] fun r => r = .ret (.tup [L, .int .i64 0])) (hXl : Low 0 X) :
    ACalls DX 81 [.agg key, b, .int .i64 n] [] fun r h' => ∃ ov, r = .ret (.tup [ov, .int .i64 0]) ∧ Vs.Own h' 1 32 true ov n (bytesV s) ∧ (n = 0 → ov = .nsl) := by
  obtain ⟨r0, r1, r2, r3, r4, bd, ops, ty, pos, af, i1, i2, hbd, k0, k1, k2, k3, k4, kb, kn, k7⟩ := keys_shape
  have hv1 : L.cells = [L] ∧ L.one = true ∧ Low 0 L := by
    rcases hL with ⟨rfl, _⟩ | ⟨ex, rfl⟩
    · exact ⟨rfl, rfl, .nsl⟩
    · exact ⟨rfl, rfl, .lst _ _ (by rw [flat_bytes]; exact bytesV_low s)⟩
  have g1 : ¬ (n : Int) < 1 := by omega
  have g1' : (1 : Int) ≤ n := by omega
  have g2 : ¬ 3 < (n : Int) := by omega
  have g2' : (n : Int) ≤ 3 := by omega
  have g3 : ¬ n = 0 := by omega
  have g4 : 0 < n := by omega
  have hw : IntKind.i64.wrap ((n : Int) * 32) = 32 * (n : Int) := by rw [wrap64 (by omega) (by omega)]; omega
  have hko0 : ∀ y ∈ key, y.one = true := fun y hy => (hk1 y hy).1
  have hko := eq_true hko0
  have hrd : rd [some (.cells key none)] (.ptr 0 0) 32 = some key := by simp [rd, hget, sub, hkl, List.take_of_length_le]
  refine acallsM (fn := Tryd.f81) Tryd.func81 hbd callableK (rs := [.t 6, .t 7]) ckrsK (by show [V.agg key, b, V.int .i64 n].length ≤ 38; simp) (n := 9) fun w0 E a w H => ?_
  refine seq_told DX.ok k0 (Le.refl E) H (R := fun s' => s'.d = [] ∧ s'.h = [some (.cells key none)] ∧ s'.t 1 = b ∧ s'.t 2 = .int .i64 n ∧ s'.t 3 = .ptr 0 0) (by simp [V.cells, hko]) fun E1 s1 a1 w1 hE1 H1 ⟨d1, g1h, t11, t12, t13⟩ => ?_
  refine seq_told DX.ok k1 hE1 H1 (R := fun s' => s'.d = [] ∧ s'.h = [some (.cells key none)] ∧ s'.t 1 = b ∧ s'.t 2 = .int .i64 n ∧ s'.t 3 = .ptr 0 0) (by simp [d1, g1h, t11, t12, t13, g1, g1', g2, g2', g3, g4]) fun E2 s2 a2 w2 hE2 H2 ⟨d2, g2h, t21, t22, t23⟩ => ?_
  refine seq_told DX.ok k2 hE2 H2 (R := fun s' => s'.d = [] ∧ s'.h = [some (.cells key none)] ∧ s'.t 8 = L ∧ s'.t 9 = .int .i64 0) ?_ fun E3 s3 a3 w3 hE3 H3 ⟨d3, g3h, t38, t39⟩ => ?_
  · simp [d2, g2h, t21, t22, t23, aop_slcaV, slcaVV, hrd]
    refine hE.mono ?_
    rintro r h' ⟨rfl, rfl⟩
    simp [t22, hw]
    refine (PCalls.at DX.low hX (fun a ha => by
      simp at ha; rcases ha with rfl | rfl | rfl
      · exact hXl
      · exact .nsl
      · exact .int _ _) _).mono ?_
    rintro r h' ⟨rfl, rfl⟩
    simp
  refine seq_told DX.ok k3 hE3 H3 (R := fun s' => s'.d = [] ∧ s'.h = [some (.cells key none), some (.cells [.nsl] none)] ∧ s'.t 8 = L ∧ s'.t 9 = .int .i64 0 ∧ s'.t 10 = .ptr 1 0) (by simp [d3, g3h, t38, t39]) fun E4 s4 a4 w4 hE4 H4 ⟨d4, g4h, t48, t49, t410⟩ => ?_
  refine wpIn_seq ?_
  refine seq_told (R := fun s' => s'.d = [] ∧ s'.h = [some (.cells key none), some (.cells [.nsl] none)] ∧ s'.t 9 = .int .i64 0 ∧ s'.t 10 = .ptr 1 0 ∧ s'.t 28 = .fn (.func 88) [] [.fp [L] 0, .fp [.int .i64 (32 : Nat)] 0]) DX.ok k4 hE4 H4 ?_ fun E5 s5 a5 w5 hE5 H5 ⟨d5, g5h, p9, p10, q28⟩ => ?_
  · simp [d4, g4h, t48, t49, t410]
    refine (chunk_spec (h := [some (.cells key none), some (.cells [.nsl] none)]) (c := 32) (by omega) hv1.1 hv1.2.1 (Low.mono (Nat.zero_le _) hv1.2.2) (fun β hβ b' hb' => ?_)).mono ?_
    · match β, hb' with
      | 0, hb' =>
        simp [hget] at hb'; subst hb'
        intro c hc; exact Low.mono (Nat.zero_le _) (hk1 c hc).2
      | 1, hb' =>
        simp [hget] at hb'; subst hb'
        intro c hc; simp at hc; subst hc; exact .nsl
      | β + 2, hb' => simp [hget] at hb'
    · rintro r h' ⟨rfl, rfl⟩
      simp [t49, t410]
  obtain ⟨pc, pn, hu, hpc, hpn⟩ := VR.fn2 (q28 ▸ H5.tm 28)
  obtain ⟨b1, p1, sv, rfl, hf1, hsv⟩ := VR.fp_one hpc
  obtain ⟨b', p', sv', rfl, hf2, hsv'⟩ := VR.fp_one hpn
  cases hsv'
  obtain ⟨vl, hXs, hseq⟩ := chunk_stops (E := E5) (c := 32) (by omega) hL (by omega) hf1 hsv hf2 (w := w5) (fun b o v h => H5.sr.frz b o v h) 8 (by omega)
  have hlen : s5.h.length = 2 := by rw [g5h]; rfl
  have last : ∀ (D : Nat) (W : World) (Y : Hp → Prop), (∀ h', Y h' → Held (bytesV s) n h') → W.heap[D]? = some (.deferred (some [])) → rfDone w0 E5 D Y W →
      (Code.seq (.region i2 ops false) .ret).wpIn Fence.wide 9 DX.P (RfPost DX w0 Tryd.f81.ntmps E [.t 6, .t 7] fun r h' => ∃ ov, r = .ret (.tup [ov, .int .i64 0]) ∧ Vs.Own h' 1 32 true ov n (bytesV s) ∧ (n = 0 → ov = .nsl))
        (Tl [Vs.mark D] a5) W := by
    rintro D W Y hY hK ⟨E', h', b1, b2, b3, b4⟩
    refine last_wp DX.ok k7 (hE5.trans b1) (s := { t := s5.t, h := h', d := [] }) ⟨b2, H5.gr.mono b1, fun k => (H5.tm k).mono b1, H5.sz, ?_⟩ rfl hK b3 ((hY h' b4).last p10 p9)
    rw [H5.noD d5]; exact ⟨rfl, fun j d u hd => by simp at hd⟩
  refine wpIn_block (Code.wpIn_mono (fun e a' W ⟨D, ha, hK, hcs⟩ => ?main) (rf_wp DX.ok (g := .tmp 28) (n := 9) (p := 29) (t := 11) (by omega) H5 (by show 29 < 38; omega) (by show 11 < 38; omega) (show a5.eval (.tmp 28) = _ from hu) (enters_of Tryd.func88 (by kernel_rfl) rfl) hXs hseq
    (fun l v tmps W K hv hK => assign_wp hv hK) kb kn (fun β b hβ hb => by rw [List.getElem?_eq_none hβ] at hb; cases hb) (InvK s) (InvXK s) ?inv (fun pre e h hi hlp => by rw [hlen]; exact roundK hs hn3 p10 pre e h hi hlp)))
  case main =>
    have ha' : a' = Tl [Vs.mark D] a5 := by rw [ha]; simp [Tl, Vs.mark, H5.noD d5]
    subst ha'
    rcases hcs with ⟨rfl, xs, hS, hd⟩ | ⟨id, pre, rfl, hS, hd⟩
    · exact last D W _ (fun h' hY => finK hs (.inl ⟨xs, hS, hY⟩)) hK hd
    · obtain ⟨E', h', b1, b2, b3, b4⟩ := hd
      exact b4.elim
  case inv =>
    rw [g5h]
    refine ⟨fun β b hβ hb => ?_, .nsl, rfl, ⟨rfl, .inl ⟨rfl, rfl⟩⟩, fun _ => rfl⟩
    rw [List.getElem?_eq_none (by simpa using hβ)] at hb; cases hb

def keysV (n : Nat) (s : List UInt8) : V := .lst false (chunk 32 true n (bytesV s))
theorem keys_spec {n : Nat} {s : List UInt8} {key : List V} {b X L : V} (hkl : key.length = 32) (hk1 : ∀ y ∈ key, y.one = true ∧ Low 0 y) (hb : Low 0 b) (hn1 : 1 ≤ n) (hn3 : n ≤ 3) (hL : BytesV L s) (hs : s.length = 32 * n)
    (hE : ACalls DX 84 [.sl 0 0 32 32 true 1 false, b] [some (.cells key none)] fun r h' => r = .ret X ∧ h' = [some (.cells key none)])
    (hX : PCalls DX 83 [X, .nsl, .int .i64 (32 * (n : Int))] fun r => r = .ret (.tup [L, .int .i64 0])) (hXl : Low 0 X) :
    PCalls DX 81 [.agg key, b, .int .i64 n] fun r => r = .ret (.tup [keysV n s, .int .i64 0]) := by
  refine (keys0 hkl hk1 hb hn1 hn3 hL hs hE hX hXl).ice ?_
  rintro r h' ⟨ov, rfl, hO, h0⟩
  refine ⟨Nat.zero_le _, LowH.zero _, .ret (.tup [keysV n s, .int .i64 0]), ?_, rfl, by simp⟩
  show Ice h' 0 (.tup [ov, .int .i64 0]) (.tup [keysV n s, .int .i64 0])
  have h1 : Ice h' 0 ov (keysV n s) := by
    obtain ⟨hl, ⟨rfl, hn⟩ | ⟨rfl, hn⟩ | ⟨b, cap, ex, rest, ty, rfl, hb, hg, hc, hce⟩⟩ := hO
    · omega
    · omega
    · unfold keysV
      refine .sl b 0 n cap ex 32 true _ ty (bytesV s) (bytesV s) (by omega) hg (by simp [sub, ← hl]) (fun e => by cases e) rfl (fun j x y hx hy => ?_) (fun y hy => bytesV_one s y hy)
      rw [hx] at hy; cases hy
      exact .low _ (bytesV_low s _ (List.mem_of_getElem? hx))
  refine .tup _ _ rfl fun j x y hx hy => ?_
  match j with
  | 0 => simp at hx hy; subst hx; subst hy; exact h1
  | 1 => simp at hx hy; subst hx; subst hy; exact .low _ (.int _ _)
  | j + 2 => simp at hx
end Go.Proofs.YtfinnljkcgglfaaDoor
