/- ScriptCuts: what a beginning says is a beginning of what all says. -/
import Derived.Test.YtbabpibaccngnaaGreatZkAl22
import Derived.Test.YtbabpibaccngnaaGreatZcCuts
namespace Go.Proofs.YtbabpibaccngnaaGreat
open Go Go.Vs Go.RowKit
set_option maxRecDepth 100000
set_option linter.unusedSimpArgs false
set_option linter.unusedVariables false

theorem chunk_length (es : Nat) (ag : Bool) : ∀ (n : Nat) (l : List V), (chunk es ag n l).length = n
  | 0, _ => rfl
  | n + 1, l => by simp [chunk, chunk_length es ag n]
theorem chunk_get (es : Nat) : ∀ (n i : Nat) (l : List V), i < n → (chunk es true n l).getD i .nptr = .agg ((l.drop (i * es)).take es)
  | 0, _, _, h => by omega
  | n + 1, 0, l, _ => by simp [chunk]
  | n + 1, i + 1, l, h => by
    have := chunk_get es n i (l.drop es) (by omega)
    rw [List.drop_drop] at this
    simp only [chunk, List.getD_cons_succ]
    rw [this, show es + i * es = (i + 1) * es by rw [Nat.add_mul]; omega]

theorem decCells_len (s : List UInt8) : ∀ k, (decCells s k).length = k * 5
  | 0 => rfl
  | k + 1 => by rw [decCells, List.length_append, decCells_len s k]; simp only [stepV, List.length_cons, List.length_nil]; omega
def stepAt (s : List UInt8) (i : Nat) : List V := stepV (s.getD (3 * i) 0) (s.getD (3 * i + 1) 0) (s.getD (3 * i + 2) 0) i
theorem decCells_at (s : List UInt8) : ∀ (n i : Nat), i < n → ((decCells s n).drop (i * 5)).take 5 = stepAt s i
  | 0, _, h => by omega
  | n + 1, i, h => by
    rcases Nat.lt_or_ge i n with hi | hi
    · rw [decCells, List.drop_append_of_le_length (by rw [decCells_len]; omega), List.take_append_of_le_length (by rw [List.length_drop, decCells_len]; omega)]
      exact decCells_at s n i hi
    · have : i = n := by omega
      subst this
      rw [decCells, ← decCells_len s i, List.drop_left']
      · rfl
      · rfl

def decN (s : List UInt8) : Nat := min (s.length / 3) 500
theorem decodeV_len (s : List UInt8) (h : Hp) : lenV h .slc (decodeV s) = some (.int .i64 (decN s)) := by
  unfold decodeV decN
  cases min (s.length / 3) 500 with
  | zero => rfl
  | succ k => simp [lenV, chunk_length]
theorem decodeV_at (s : List UInt8) {i : Nat} (hi : i < decN s) : iadV 5 (decodeV s) (.int .i64 i) = some (.fp (stepAt s i) 0) := by
  unfold decodeV
  unfold decN at hi
  cases hk : min (s.length / 3) 500 with
  | zero => omega
  | succ k =>
    rw [hk] at hi
    have hg := chunk_get 5 (k + 1) i (decCells s (k + 1)) hi
    rw [decCells_at s _ _ hi] at hg
    simp only [iadV, chunk_length, Int.toNat_natCast, hg]
    rw [if_pos ⟨by omega, by omega, rfl⟩]
    rfl
theorem stepAt_take {s : List UInt8} {m i : Nat} (h : 3 * i + 3 ≤ m) : stepAt (s.take m) i = stepAt s i := by
  unfold stepAt
  have : ∀ j, j < m → (s.take m).getD j 0 = s.getD j 0 := fun j hj => by
    rw [List.getD_eq_getElem?_getD, List.getD_eq_getElem?_getD, List.getElem?_take_of_lt hj]
  rw [this _ (by omega), this _ (by omega), this _ (by omega)]

theorem BytesV.take {v : V} {s : List UInt8} (hs : BytesV v s) {m : Nat} (hm : m ≤ s.length) : ∃ v', slcV 1 v 0 (some m) none = some v' ∧ BytesV v' (s.take m) := by
  rcases hs with ⟨rfl, rfl⟩ | ⟨ex, rfl⟩
  · have : m = 0 := by simpa using hm
    subst this
    exact ⟨.nsl, rfl, .inl ⟨rfl, rfl⟩⟩
  · have hl : (bytesV s).length = s.length := by simp [bytesV]
    refine ⟨.lst (ex && m == s.length) (bytesV (s.take m)), ?_, .inr ⟨_, rfl⟩⟩
    · simp only [slcV, Option.getD_some, hl]
      rw [if_pos ⟨Nat.zero_le _, hm, fun x hx => by obtain ⟨c, _, rfl⟩ := List.mem_map.1 hx; rfl⟩]
      simp [upTo, bytesV, List.map_take]
theorem BytesV.low {v : V} {s : List UInt8} (hs : BytesV v s) : Low 0 v := by
  rcases hs with ⟨rfl, _⟩ | ⟨ex, rfl⟩
  · exact .nsl
  · exact .lst _ _ (by rw [flat_bytes]; exact bytesV_low s)
theorem BytesV.len {v : V} {s : List UInt8} (hs : BytesV v s) (h : Hp) : lenV h .slc v = some (.int .i64 s.length) := by
  rcases hs with ⟨rfl, rfl⟩ | ⟨ex, rfl⟩
  · rfl
  · simp [lenV, bytesV]

theorem rd_st {h : Hp} {b : Nat} {c0 c1 c2 c3 c4 : V} (hg : hget h b = some (.cells [c0, c1, c2, c3, c4] none)) : rd h (.ptr b 0) 5 = some [c0, c1, c2, c3, c4] ∧ rd h (.ptr b 0) 1 = some [c0] ∧ rd h (.ptr b 1) 1 = some [c1] ∧ rd h (.ptr b 2) 1 = some [c2] ∧ rd h (.ptr b 3) 1 = some [c3] := by
  simp only [rd, hg]
  exact ⟨rfl, rfl, rfl, rfl, rfl⟩
theorem st_st (h : Hp) (b0 b1 b2 : UInt8) (n : Nat) : stV (h ++ [some (.cells [.int .i64 0, .int .u8 0, .int .u8 0, .int .u64 0, .str []] none)]) 5 (.ptr h.length 0) (.agg (stepV b0 b1 b2 n)) = some (.skip (h ++ [some (.cells (stepV b0 b1 b2 n) none)])) := by
  simp only [stV, V.cells, wr, hget_new]
  rw [if_pos ⟨rfl, by simp [stepV, V.one]⟩]
  simp [stepV, setAll]
theorem veq_st (b0 b1 b2 : UInt8) (n : Nat) : veq (.agg [.num, .num, .num, .num, .str]) (.agg (stepV b0 b1 b2 n)) (.agg (stepV b0 b1 b2 n)) = some true := by
  simp [veq, stepV, veqs, veq1]

def cutsInv (s : List UInt8) (m : Nat) (k : Nat) (st : St) : Prop :=
  ∃ i : Nat, k + i = decN s ∧ st.t 40 = .int .i64 i ∧ st.t 39 = .int .i64 (decN s) ∧ st.t 38 = decodeV s ∧ st.t 6 = decodeV (s.take m) ∧ st.d = []

def minVV (h : Hp) (a b : V) : Option Rz := match a, b with
  | .int k a, .int k' b => if k = k' then some (.val (.int k (if b < a then b else a)) h) else none
  | _, _ => none
theorem aop_minV {x : X} {t : Nat → V} {h : Hp} (a b : O) : aop x t h (.min a b) = minVV h (a.ev x t) (b.ev x t) := by
  simp only [aop, minVV]
  generalize a.ev x t = u; generalize b.ev x t = w
  cases u <;> cases w <;> rfl
theorem minVV_int (h : Hp) (k : IntKind) (a b : Int) : minVV h (.int k a) (.int k b) = some (.val (.int k (if b < a then b else a)) h) := by simp [minVV]
attribute [local simp] unV extV wanted strBin
theorem cuts_law {v : V} {s : List UInt8} (hs : BytesV v s) {n : Int} (h0 : 0 ≤ n) (h1 : n < 65536) : PCalls CX 10 [v, .int .u16 n] fun r => r = .ret (.bool true) := by
  refine PCalls.of (acall CX.ok ckL10 rfl ?_) fun r hr => by subst hr; exact .bool _
  have hl := fun h => hs.len h
  simp [L10]
  refine (PCalls.at CX.low alive22 (fun a ha => by cases ha) _).mono ?_
  rintro r h' ⟨rfl, rfl⟩
  by_cases hbig : (3000 : Int) < s.length
  · have hbig' : ¬ (s.length : Int) ≤ 3000 := by omega
    simp [hl, hbig, hbig']
  · have hbig' : (s.length : Int) ≤ 3000 := by omega
    have hc : cviV .i64 (.int .u16 n) = some (.int .i64 n) := by
      simp only [cviV, Option.some.injEq, V.int.injEq, true_and]
      exact wrap64 (by omega) (by omega)
    obtain ⟨m, hm⟩ : ∃ m : Nat, (m : Int) = if (s.length : Int) < n then (s.length : Int) else n := ⟨min s.length n.toNat, by split <;> omega⟩
    have hm1 : m ≤ s.length := by split at hm <;> omega
    obtain ⟨v2, hv2, hs2⟩ := hs.take hm1
    have hstr : v.isStr = false := by rcases hs with ⟨rfl, _⟩ | ⟨_, rfl⟩ <;> rfl
    simp [hl, hbig, hbig', hc, aop_minV, minVV_int, ← hm, hstr, hv2]
    refine (PCalls.at CX.low (decode_spec hs (by omega)) (fun a ha => by simp at ha; subst ha; exact hs.low) _).mono ?_
    rintro r h' ⟨rfl, rfl⟩
    simp
    refine (PCalls.at CX.low (decode_spec hs2 (by simp; omega)) (fun a ha => by simp at ha; subst ha; exact hs2.low) _).mono ?_
    rintro r h' ⟨rfl, rfl⟩
    have hd1 := fun h => decodeV_len s h
    have hd2 := fun h => decodeV_len (s.take m) h
    have hn1 : decN s = min (s.length / 3) 500 := rfl
    have hn2 : decN (s.take m) = min (m / 3) 500 := by unfold decN; simp [Nat.min_eq_left hm1]
    have hq : IntKind.i64.wrap ((s.length : Int) / 3) = (s.length : Int) / 3 := wrap64 (by omega) (by omega)
    have he : (if (500 : Int) < (s.length : Int) / 3 then (500 : Int) else (s.length : Int) / 3) = decN s := by rw [hn1]; split <;> omega
    have hle : (decN (s.take m) : Int) ≤ decN s := by rw [hn1, hn2]; omega
    have hle' : ¬ (decN s : Int) < decN (s.take m) := by omega
    simp [hd1, hd2, hl, aop_minV, minVV_int, hq, he, hle, hle']
    refine vc_loop _ _ _ (cutsInv s m) (decN s) ⟨0, by simp, by simp, by simp, by simp, by simp, rfl⟩ ?_
    rintro k ⟨t, h', d⟩ ⟨i, hk, h40, h39, h38, h6, hd⟩
    simp only at h40 h39 h38 h6 hd
    subst hd
    by_cases hi : i < decN s
    · have a1 := decodeV_at s hi
      have r1 : ∀ h, rd h (.fp (stepAt s i) 0) 5 = some (stepAt s i) := fun _ => rfl
      have h5c : decN s ≤ 500 := by unfold decN; omega
      have hw : IntKind.i64.wrap ((i : Int) + 1) = (i : Int) + 1 := wrap64 (by omega) (by omega)
      obtain ⟨b0, b1, b2, hst⟩ : ∃ b0 b1 b2, stepAt s i = stepV b0 b1 b2 i := ⟨_, _, _, rfl⟩
      rw [hst] at a1 r1
      have hnew := rd_st (hget_new h' (some (.cells (stepV b0 b1 b2 i) none)))
      have hii : (i : Int) < decN s := by omega
      have x0 := b0.toNat_lt
      have x1 := b1.toNat_lt
      have x2 := b2.toNat_lt
      have y1 : (1 : Int) ≤ (b0.toNat : Int).tmod 12 + 1 := by rw [Int.tmod_eq_emod_of_nonneg (by omega)]; omega
      have y1' : ¬ (b0.toNat : Int).tmod 12 + 1 < 1 := by omega
      have y2 : (b0.toNat : Int).tmod 12 + 1 ≤ 12 := by rw [Int.tmod_eq_emod_of_nonneg (by omega)]; omega
      have y2' : ¬ 12 < (b0.toNat : Int).tmod 12 + 1 := by omega
      have y3 : (b1.toNat : Int).tmod 6 ≤ 5 := by rw [Int.tmod_eq_emod_of_nonneg (by omega)]; omega
      have y3' : ¬ 5 < (b1.toNat : Int).tmod 6 := by omega
      have y4 : (IntKind.u8.wrap ((b1.toNat : Int) / 6)).tmod 6 ≤ 5 := by
        rw [show ((b1.toNat : Int) / 6) = ((b1.toNat / 6 : Nat) : Int) by omega, wrapu8, Int.tmod_eq_emod_of_nonneg (by omega)]; omega
      have y4' : ¬ 5 < (IntKind.u8.wrap ((b1.toNat : Int) / 6)).tmod 6 := by omega
      have y5 : (b2.toNat : Int) ≤ 255 := by omega
      have y5' : ¬ 255 < (b2.toNat : Int) := by omega
      have hve : veq (.agg [.num, .num, .num, .num, .str]) (.agg (stepV b0 b1 b2 i)) (.agg [.int .i64 ((b0.toNat : Int).tmod 12 + 1), .int .u8 ((b1.toNat : Int).tmod 6), .int .u8 ((IntKind.u8.wrap ((b1.toNat : Int) / 6)).tmod 6), .int .u64 b2.toNat, .str (116 :: 101 :: 120 :: 116 :: numB i)]) = some true := veq_st b0 b1 b2 i
      by_cases hp : i < decN (s.take m)
      · have a2 := decodeV_at (s.take m) hp
        rw [stepAt_take (by rw [hn2] at hp; omega), hst] at a2
        have hpp : (i : Int) < decN (s.take m) := by omega
        simp [h40, h39, h38, h6, hii, a1, r1, asV, st_st, hd2, hpp, a2, hnew, hve, hw, fadV, hget_new, y1, y1', y2, y2', y3, y3', y4, y4', y5, y5']
        exact ⟨k - 1, by omega, i + 1, by omega, by simp, by simp [h39], by simp [h38], by simp [h6], rfl⟩
      · have hpp : ¬ (i : Int) < decN (s.take m) := by omega
        have hpp' : (decN (s.take m) : Int) ≤ i := by omega
        simp [h40, h39, h38, h6, hii, a1, r1, asV, st_st, hd2, hpp, hpp', hnew, hw, fadV, hget_new, y1, y1', y2, y2', y3, y3', y4, y4', y5, y5']
        exact ⟨k - 1, by omega, i + 1, by omega, by simp, by simp [h39], by simp [h38], by simp [h6], rfl⟩
    · have hii : ¬ (i : Int) < decN s := by omega
      have hii' : (decN s : Int) ≤ i := by omega
      simp [h40, h39, hii, hii']
end Go.Proofs.YtbabpibaccngnaaGreat
