/- What the functions of package slices come to. -/
import Derived.Test.YtfinnljkcgglfaaDoorZdTab
import Derived.Test.YtfinnljkcgglfaaDoorZv4
set_option linter.unusedSimpArgs false
set_option linter.unusedVariables false
namespace Go.Proofs.YtfinnljkcgglfaaDoor
open Go.Vs Go.RowKit
set_option linter.unusedSimpArgs false
set_option linter.unusedVariables false
set_option maxRecDepth 10000

theorem wrap64 {n : Int} (h0 : -9223372036854775808 ≤ n) (h1 : n < 9223372036854775808) : IntKind.i64.wrap n = n := by
  rw [IntKind.wrap_i64]; omega

theorem one_at {ys : List V} {i : Nat} {y : V} (h : ys[i]? = some y) : List.take 1 (List.drop (i * 1) ys) = [y] := by
  have hi := (List.getElem?_eq_some_iff.1 h).1
  rw [Nat.mul_one, List.drop_eq_getElem_cons hi]
  simp [(List.getElem?_eq_some_iff.1 h).2]

theorem Sl.isStr {h : Hp} {es : Nat} {s : V} {n : Nat} {ys : List V} (H : Sl h es s n ys) : s.isStr = false := H.2.1

theorem str_one {ps : List (List UInt8)} : ∀ y ∈ ps.map V.str, y.one = true := by
  intro y hy; obtain ⟨p, _, rfl⟩ := List.mem_map.1 hy; rfl

theorem str_low {ps : List (List UInt8)} : ∀ y ∈ ps.map V.str, Low 0 y := by
  intro y hy; obtain ⟨p, _, rfl⟩ := List.mem_map.1 hy; exact .str p

/-- A list of texts and a number are answered. -/
def LR (ps : List (List UInt8)) (e : Int) (h : Hp) : Res → Hp → Prop := fun r h' => h' = h ∧ ∃ v, r = .ret (.tup [v, .int .i64 e]) ∧ Fz 1 v ps.length (ps.map .str)

/-- .. out of a slice of the call's own. -/
theorem LR.of {x : X} {f : FuncId} {args : List V} {h : Hp} {ps : List (List UInt8)} {e : Int} (H : ACalls x f args h fun r h' => ∃ v, r = .ret (.tup [v, .int .i64 e]) ∧ (Own h' h.length 1 false v ps.length (ps.map .str) ∨ Fz 1 v ps.length (ps.map .str)) ∧ Frm h.length h h') (hlow : LowH h.length h) :
    ACalls x f args h (LR ps e h) := by
  refine H.ice fun r h' ⟨v, hr, ho, hf⟩ => ⟨hf.1, ?_, ?_⟩
  · intro β hβ b hg
    refine hlow β hβ b ?_
    have h1 : hget (h'.take h.length) β = hget (h.take h.length) β := by rw [hf.2]
    unfold hget at h1 hg ⊢
    rw [List.getElem?_take_of_lt hβ, List.getElem?_take_of_lt hβ] at h1
    rw [← h1]; exact hg
  · obtain ⟨v', h1, h2⟩ : ∃ v', Ice h' h.length v v' ∧ Fz 1 v' ps.length (ps.map .str) := by
      rcases ho with ho | ho
      · exact ho.ice (fun _ => rfl) str_one str_low
      · exact ⟨v, .low _ ((ho.low str_low).mono (Nat.zero_le _)), ho⟩
    subst hr
    refine ⟨.ret (.tup [v', .int .i64 e]), ?_, by rw [hf.2]; simp, v', rfl, h2⟩
    refine .tup _ _ rfl fun j x y hx hy => ?_
    match j with
    | 0 => simp at hx hy; subst hx; subst hy; exact h1
    | 1 => simp at hx hy; subst hx; subst hy; exact .low _ (.int _ _)
    | j + 2 => simp at hx

end Go.Proofs.YtfinnljkcgglfaaDoor
namespace Go.Proofs.YtfinnljkcgglfaaDoor
open Go.Vs Go.RowKit
set_option linter.unusedSimpArgs false
set_option linter.unusedVariables false
set_option maxRecDepth 10000

set_option maxHeartbeats 1000000 in
theorem copyCheck_spec {h : Hp} {k β n : Nat} {ys : List V} (hk : k ≤ h.length) (H : Bld h k 129 5 β n ys) :
    ACalls DX 65 [.ptr β 0] h (fun r h' => r = .ret (.tup []) ∧ Bld h' k 129 5 β n ys ∧ Frm k h h' ∧ h'.length = h.length) := by
  obtain ⟨a, buf, hb, hg, ha, ho, hne, hlt⟩ := H
  refine acall DX.ok ck65 rfl ?_
  have hbl := hget_lt hg
  rcases ha with rfl | rfl
  · simp [F65, nilV, fadV, rd, hg, sub, asV, veq, toUV, frUV, stV, wr, V.cells, V.one, setAll]
    refine ⟨⟨.ptr β 0, buf, hb, by rw [hget_set hbl], .inr rfl, ho.keep fun b hbb => hget_set_ne (fun e => hne (by rw [hbb, e])) _, hne, fun b hbb => by simp; exact hlt b hbb⟩, Frm.set hk hb _⟩
  · simp [F65, nilV, fadV, rd, hg, sub, asV, veq, pneV]
    exact ⟨⟨.ptr β 0, buf, hb, hg, .inr rfl, ho, hne, hlt⟩, Frm.refl hk⟩

/-- What a builder's writing leaves. -/
def Wrote (h : Hp) (k β n : Nat) (ys : List V) (m : Nat) : Res → Hp → Prop := fun r h' => r = .ret (.tup [.int .i64 m, .nifc]) ∧ Bld h' k 129 5 β n ys ∧ Frm k h h' ∧ h.length ≤ h'.length

set_option maxHeartbeats 1000000 in
theorem write_spec {h : Hp} {k β n m : Nat} {ys zs : List V} {s : V} (hk : k ≤ h.length) (H : Bld h k 129 5 β n ys) (hs : Fz 1 s m zs) (hr : n + m ≤ room) :
    ACalls DX 60 [.ptr β 0, s] h (Wrote h k β (n + m) (ys ++ zs) m) := by
  refine acall DX.ok ck60 rfl ?_
  simp [F60]
  refine (copyCheck_spec hk H).mono ?_
  rintro r h1 ⟨rfl, ⟨a, buf, hb, hg, ha, ho, hne, hlt⟩, hf, hln⟩
  have hbl := hget_lt hg
  obtain ⟨v', h2, a1, a2, a3, a4, a5, a6⟩ := OwnT.app (a := s) hf.1 ho (hs h1).1 (by have := (hs []).ylen; simpa using this) hr
  have hg2 : hget h2 β = some (.cells [a, buf] (some 129)) := by rw [a4 β hbl hne]; exact hg
  have hl2 := fun g => (hs g).len
  have hb2 := hget_lt hg2
  obtain ⟨p1, p2⟩ := a2.plain
  simp [nilV, fadV, rd, hg, sub, asV, a1, stV, wr, hg2, p1, p2, setAll, hl2]
  refine ⟨rfl, ⟨a, v', hb, hget_set hb2 _, ha, a2.keep fun b hbb => hget_set_ne (fun e => ?_) _, fun e => ?_, fun b hbb => ?_⟩, hf.trans (a3.trans (Frm.set a3.1 hb _)), by simp; omega⟩
  · rcases a5 with a5 | a5
    · rw [a5] at hbb; exact hne (by rw [hbb, e])
    · rw [a5] at hbb; cases hbb; omega
  · rcases a5 with a5 | a5
    · rw [a5] at e; exact hne e
    · rw [a5] at e; cases e; omega
  · simp only [List.length_set]
    rcases a5 with a5 | a5
    · rw [a5] at hbb; have := hlt b hbb; omega
    · rw [a5] at hbb; cases hbb
      obtain ⟨_, ⟨rfl, _⟩ | ⟨b', cap, ex, rest, rfl, _, _, hgg, _, _⟩⟩ := a2
      · simp [V.blk] at a5
      · simp only [V.blk, Option.some.injEq] at a5; subst a5; exact hget_lt hgg

set_option maxHeartbeats 1000000 in
theorem writeString_spec {h : Hp} {k β n : Nat} {ys : List V} {s : List UInt8} (hk : k ≤ h.length) (H : Bld h k 129 5 β n ys) (hr : n + s.length ≤ room) :
    ACalls DX 61 [.ptr β 0, .str s] h (Wrote h k β (n + s.length) (ys ++ bytesV s) s.length) := by
  refine acall DX.ok ck61 rfl ?_
  simp [F61]
  refine (copyCheck_spec hk H).mono ?_
  rintro r h1 ⟨rfl, ⟨a, buf, hb, hg, ha, ho, hne, hlt⟩, hf, hln⟩
  have hbl := hget_lt hg
  obtain ⟨v', h2, a1, a2, a3, a4, a5, a6⟩ := OwnT.app (a := .str s) (m := s.length) (zs := bytesV s) hf.1 ho (by simp [src, bytesV]) (bytesV_length s) hr
  have hg2 : hget h2 β = some (.cells [a, buf] (some 129)) := by rw [a4 β hbl hne]; exact hg
  have hb2 := hget_lt hg2
  obtain ⟨p1, p2⟩ := a2.plain
  simp [nilV, fadV, rd, hg, sub, asV, a1, stV, wr, hg2, p1, p2, setAll, lenV]
  refine ⟨rfl, ⟨a, v', hb, hget_set hb2 _, ha, a2.keep fun b hbb => hget_set_ne (fun e => ?_) _, fun e => ?_, fun b hbb => ?_⟩, hf.trans (a3.trans (Frm.set a3.1 hb _)), by simp; omega⟩
  · rcases a5 with a5 | a5
    · rw [a5] at hbb; exact hne (by rw [hbb, e])
    · rw [a5] at hbb; cases hbb; omega
  · rcases a5 with a5 | a5
    · rw [a5] at e; exact hne e
    · rw [a5] at e; cases e; omega
  · simp only [List.length_set]
    rcases a5 with a5 | a5
    · rw [a5] at hbb; have := hlt b hbb; omega
    · rw [a5] at hbb; cases hbb
      obtain ⟨_, ⟨rfl, _⟩ | ⟨b', cap, ex, rest, rfl, _, _, hgg, _, _⟩⟩ := a2
      · simp [V.blk] at a5
      · simp only [V.blk, Option.some.injEq] at a5; subst a5; exact hget_lt hgg

theorem blen_spec {h : Hp} {k β n : Nat} {ys : List V} (H : Bld h k 129 5 β n ys) :
    ACalls DX 62 [.ptr β 0] h (fun r h' => r = .ret (.int .i64 n) ∧ h' = h) := by
  obtain ⟨a, buf, hb, hg, ha, ho, hne, hlt⟩ := H
  refine acall DX.ok ck62 rfl ?_
  simp [F62, nilV, fadV, rd, hg, sub, asV, ho.sl.len]

set_option maxHeartbeats 1000000 in
/-- What a builder holds; nothing is told of it behind that. -/
theorem bstring_spec {h : Hp} {k β : Nat} {s : List UInt8} (hk : k ≤ h.length) (H : Bld h k 129 5 β s.length (bytesV s)) (hmax : s.length ≤ room) :
    ACalls DX 63 [.ptr β 0] h (fun r h' => r = .ret (.str s) ∧ Frm k h h') := by
  obtain ⟨a, buf, hb, hg, ha, ho, hne, hlt⟩ := H
  refine acall DX.ok ck63 rfl ?_
  have hl := ho.sl.len
  obtain ⟨hyl, ⟨rfl, h0⟩ | ⟨b, cap, ex, rest, rfl, hpos, hkb, hgb, hc, hce⟩⟩ := ho
  · have hs : s = [] := List.eq_nil_of_length_eq_zero h0
    subst hs
    simp [F63, nilV, fadV, rd, hg, sub, asV, lenV, sldV, ustrV, Frm.refl hk]
  · have hcap : 0 < cap := by omega
    have hn0 : ¬ ((s.length : Int) = 0) := by omega
    have hsub : sub (bytesV s ++ rest) 0 s.length = some (bytesV s) := by
      unfold sub
      rw [if_pos (by rw [List.length_append, bytesV_length]; omega), List.drop_zero, List.take_append_of_le_length (by rw [bytesV_length]; exact Nat.le_refl _), List.take_of_length_le (by rw [bytesV_length]; exact Nat.le_refl _)]
    have hmx : (s.length : Int) ≤ 9223372036854775807 := by unfold room at hmax; omega
    have hu : ustrV h 5 (.ptr b 0) (.int .i64 s.length) = some (.val (.str s) (h.set b none)) := by
      unfold ustrV
      simp only []
      rw [if_neg hn0]
      simp only [hgb]
      rw [if_pos ⟨trivial, trivial, by omega, hmx⟩, Int.toNat_natCast, hsub]
      simp only []
      rw [if_pos (bytesV_isByte s), bytesV_back s _ (fun _ _ => rfl)]
    simp [F63, nilV, fadV, rd, hg, sub, asV, lenV, sldV, hcap, hu]
    exact Frm.set hk hkb none
end Go.Proofs.YtfinnljkcgglfaaDoor
namespace Go.Proofs.YtfinnljkcgglfaaDoor
open Go.Vs Go.RowKit
set_option linter.unusedSimpArgs false
set_option linter.unusedVariables false
set_option maxRecDepth 10000

/-- A text, and ahead of it its length. -/
def part (s : List UInt8) : List UInt8 := UInt8.ofNat (s.length / 256) :: UInt8.ofNat (s.length % 256) :: s

def joinB (k : UInt8) (l : List (List UInt8)) : List UInt8 := 1 :: k :: UInt8.ofNat l.length :: l.flatMap part

def joinR (k : UInt8) (l : List (List UInt8)) : List UInt8 × Int :=
  if 255 < l.length then ([], 3) else if l.any (fun s => 4000 < s.length) then ([], 3) else if 30000 < (joinB k l).length then ([], 3) else (joinB k l, 0)

theorem wrapu8 {n : Nat} : IntKind.u8.wrap (n : Int) = ((UInt8.ofNat n).toNat : Int) := by
  rw [IntKind.wrap]
  simp [IntKind.bits, IntKind.signed]

theorem Fz.bytes (ex : Bool) (s : List UInt8) : Fz 1 (.lst ex (bytesV s)) s.length (bytesV s) := fun h => by
  have h1 : ∀ x ∈ bytesV s, x.cells.length = 1 := by
    intro x hx; obtain ⟨c, _, rfl⟩ := List.mem_map.1 hx; rfl
  have h2 : flat (bytesV s) = bytesV s := by
    unfold flat bytesV
    rw [List.flatMap_map]
    simp only [V.cells]
    clear h1
    induction s with
    | nil => rfl
    | cons a r ih => rw [List.flatMap_cons, ih]; rfl
  refine ⟨?_, rfl, trivial⟩
  simp only [src]
  rw [if_pos h1, h2, bytesV_length]

def headB (k : UInt8) (ps : List (List UInt8)) : List UInt8 := [1, k, UInt8.ofNat ps.length]

def joinInv (h0 : Hp) (l : V) (n : Nat) (k : UInt8) (ps : List (List UInt8)) (m : Nat) (st : St) : Prop :=
  ∃ i : Nat, m + i = n ∧ st.t 6 = .ptr h0.length 0 ∧ st.t 21 = l ∧ st.t 22 = .int .i64 n ∧ st.t 23 = .int .i64 i ∧ st.d = [] ∧
    Frm h0.length h0 st.h ∧ Bld st.h h0.length 129 5 h0.length (headB k ps ++ (ps.take i).flatMap part).length (bytesV (headB k ps ++ (ps.take i).flatMap part)) ∧ ∀ p ∈ ps.take i, p.length ≤ 4000

def JoinRes (h : Hp) (k : UInt8) (ps : List (List UInt8)) : Res → Hp → Prop := fun r h' => r = .ret (.tup [.str (joinR k ps).1, .int .i64 (joinR k ps).2]) ∧ Frm h.length h h'

theorem ofNat_mod (n : Nat) : UInt8.ofNat (n % 256) = UInt8.ofNat n := by
  apply UInt8.toNat.inj; simp

theorem lenBytes (n : Nat) : V.lst true [.int .u8 (IntKind.u8.wrap ((n : Int).fdiv (2 ^ min 8 IntKind.i64.bits))), .int .u8 (IntKind.u8.wrap n)] = .lst true (bytesV [UInt8.ofNat (n / 256), UInt8.ofNat (n % 256)]) := by
  have h1 : (n : Int).fdiv (2 ^ min 8 IntKind.i64.bits) = ((n / 256 : Nat) : Int) := by
    have : (2 : Int) ^ min 8 IntKind.i64.bits = 256 := by decide
    rw [this, Int.fdiv_eq_ediv_of_nonneg _ (by decide)]
    omega
  rw [h1, wrapu8, wrapu8, ofNat_mod]
  rfl

theorem part_len (s : List UInt8) : (part s).length = s.length + 2 := by simp [part]

theorem parts_le {ps : List (List UInt8)} {i : Nat} (hi : ∀ p ∈ ps.take i, p.length ≤ 4000) : ((ps.take i).flatMap part).length ≤ 4002 * i := by
  induction i generalizing ps with
  | zero => simp
  | succ i ih =>
    cases ps with
    | nil => simp
    | cons a r =>
      simp only [List.take_succ_cons, List.flatMap_cons, List.length_append, part_len]
      have h1 := hi a (by simp)
      have h2 := ih (ps := r) (fun p hp => hi p (by simp [hp]))
      omega

set_option maxHeartbeats 4000000 in
theorem join_spec0 {h : Hp} {l : V} {k : UInt8} {ps : List (List UInt8)} (H : Fz 1 l ps.length (ps.map .str)) (hn : ps.length < 2 ^ 40) :
    ACalls DX 58 [.int .u8 k.toNat, l] h (JoinRes h k ps) := by
  refine acall DX.ok ck58 rfl ?_
  have hlen := fun g => (H g).len
  simp [F58, hlen]
  by_cases h255 : 255 < ps.length
  · have : (255 : Int) < ps.length := by omega
    simp [this, JoinRes, joinR, h255, Frm.refl]
  · have : ¬ (255 : Int) < ps.length := by omega
    simp [this, fillV, V.cells, V.one, setAll, chunk, cviV, hlen]
    have hB : Bld (h ++ [some (.cells [.nptr, .nsl] (some 129))]) h.length 129 5 h.length 0 [] :=
      ⟨.nptr, .nsl, Nat.le_refl _, hget_new _ _, .inl rfl, ⟨rfl, .inl ⟨rfl, rfl⟩⟩, by simp [V.blk], by simp [V.blk]⟩
    have hz : (V.lst true [.int .u8 1, .int .u8 k.toNat, .int .u8 (IntKind.u8.wrap ps.length)]) = .lst true (bytesV (headB k ps)) := by
      rw [wrapu8]; rfl
    rw [hz]
    refine (write_spec (m := 3) (by simp) hB (Fz.bytes true (headB k ps)) (by unfold room; omega)).mono ?_
    rintro r h1 ⟨rfl, hB1, hf1, hl1⟩
    have hf1' : Frm h.length h h1 := (Frm.append (Nat.le_refl _) _).trans hf1
    simp [hlen]
    refine vc_loop _ _ _ (joinInv h l ps.length k ps) ps.length ⟨0, by omega, by simp, by simp, by simp, by simp, rfl, hf1', by simpa [headB] using hB1, by simp⟩ ?_
    rintro m ⟨t, h', d⟩ ⟨i, hm, h6, h21, h22, h23, hd, hf, hB, hall⟩
    simp only at h6 h21 h22 h23 hd hf hB
    subst hd
    by_cases hi : i < ps.length
    · obtain ⟨q, hq1, hq2⟩ := (H h').at (k := .i64) hi
      have hpi : ps[i]? = some (ps[i]'hi) := List.getElem?_eq_getElem _
      generalize ps[i]'hi = pi at hpi
      rw [one_at (y := .str pi) (by simp [hpi])] at hq2
      simp [h6, h21, h22, h23, hi, hq1, hq2, asV, lenV]
      by_cases hp : (4000 : Int) < pi.length
      · have hany : ps.any (fun s => 4000 < s.length) = true := by
          rw [List.any_eq_true]; exact ⟨pi, List.mem_of_getElem? hpi, by simp; omega⟩
        simp [hp, JoinRes, joinR, h255, hany]
        exact hf
      · simp [hp, h6, fillV, V.cells, V.one, setAll, chunk, cviV, lenV]
        rw [lenBytes]
        have hbl := parts_le hall
        have h5 : (headB k ps ++ (ps.take i).flatMap part).length ≤ 3 + 4002 * 255 := by
          rw [List.length_append, show (headB k ps).length = 3 from rfl]; omega
        have hp4 : pi.length ≤ 4000 := by omega
        refine (write_spec (m := 2) hf.1 hB (Fz.bytes true [UInt8.ofNat (pi.length / 256), UInt8.ofNat (pi.length % 256)]) (by unfold room; omega)).mono ?_
        rintro r g1 ⟨rfl, hB1, hf1, hl1⟩
        simp [h6]
        refine (writeString_spec hf1.1 hB1 (by unfold room; omega)).mono ?_
        rintro r g2 ⟨rfl, hB2, hf2, hl2⟩
        have hw : IntKind.i64.wrap ((i : Int) + 1) = (i : Int) + 1 := wrap64 (by omega) (by omega)
        simp [h23, hw]
        have htk : ps.take (i + 1) = ps.take i ++ [pi] := by rw [List.take_add_one, hpi]; rfl
        have hpt : headB k ps ++ (ps.take (i + 1)).flatMap part = headB k ps ++ (ps.take i).flatMap part ++ [UInt8.ofNat (pi.length / 256), UInt8.ofNat (pi.length % 256)] ++ pi := by
          rw [htk, List.flatMap_append]; simp [part]
        refine ⟨m - 1, by omega, i + 1, by omega, by simp [h6], by simp [h21], by simp [h22], by simp, rfl, hf.trans (hf1.trans hf2), ?_, fun p hp => ?_⟩
        · rw [hpt, bytesV_append, bytesV_append, List.length_append (bs := pi), List.length_append (bs := [UInt8.ofNat (pi.length / 256), UInt8.ofNat (pi.length % 256)])]
          exact hB2
        · rw [htk] at hp
          rcases List.mem_append.1 hp with hp | hp
          · exact hall p hp
          · simp at hp; subst hp; exact hp4
    · have hie : i = ps.length := by omega
      subst hie
      rw [List.take_length] at hB hall
      have hany : ps.any (fun s => 4000 < s.length) = false := by
        rw [List.any_eq_false]; intro p hp; have := hall p hp; simp; omega
      have hbl : (headB k ps ++ ps.flatMap part).length ≤ 3 + 4002 * 255 := by
        have := parts_le (ps := ps) (i := ps.length) (by rw [List.take_length]; exact hall)
        rw [List.take_length] at this
        rw [List.length_append, show (headB k ps).length = 3 from rfl]; omega
      have hjb : joinB k ps = headB k ps ++ ps.flatMap part := rfl
      generalize headB k ps ++ ps.flatMap part = bs at hB hbl hjb
      simp [h6, h21, h22, h23]
      refine (blen_spec hB).mono ?_
      rintro r g1 ⟨rfl, rfl⟩
      by_cases h30 : 30000 < bs.length
      · have : (30000 : Int) < (bs.length : Nat) := by omega
        simp [this]
        refine ⟨?_, hf⟩
        simp only [joinR, h255, hany, hjb, h30, if_false, if_true, Bool.false_eq_true]
      · have : ¬ (30000 : Int) < (bs.length : Nat) := by omega
        simp [this, h6]
        refine (bstring_spec hf.1 hB (by unfold room; omega)).mono ?_
        rintro r g2 ⟨rfl, hf2⟩
        simp
        refine ⟨?_, hf.trans hf2⟩
        simp only [joinR, h255, hany, hjb, h30, if_false, Bool.false_eq_true]

theorem join_spec {h : Hp} {l : V} {k : UInt8} {ps : List (List UInt8)} (H : Fz 1 l ps.length (ps.map .str)) (hn : ps.length < 2 ^ 40) (hlow : LowH h.length h) :
    ACalls DX 58 [.int .u8 k.toNat, l] h (fun r h' => r = .ret (.tup [.str (joinR k ps).1, .int .i64 (joinR k ps).2]) ∧ h' = h) :=
  (join_spec0 H hn).cut hlow fun r hr => by subst hr; exact low_str2 _ _ _

/-- A number's bytes, the greatest first, with no nought ahead. -/
def numB (n : Nat) : List UInt8 := if h : n = 0 then [] else numB (n / 256) ++ [UInt8.ofNat (n % 256)]
termination_by n
decreasing_by omega

theorem numB_pos {m : Nat} (hm : 0 < m) : numB m = numB (m / 256) ++ [UInt8.ofNat (m % 256)] := by
  rw [numB, dif_neg (by omega)]

theorem numB_len : ∀ (k : Nat) {n : Nat}, n < 256 ^ k → (numB n).length ≤ k
  | 0, n, h => by
    have : n = 0 := by simpa using h
    subst this; simp [numB]
  | k + 1, n, h => by
    by_cases h0 : n = 0
    · subst h0; simp [numB]
    · rw [numB_pos (by omega), List.length_append]
      have := numB_len k (n := n / 256) (by rw [Nat.div_lt_iff_lt_mul (by omega)]; rw [Nat.pow_succ] at h; exact h)
      simp; omega

theorem wrapu64 {n : Int} (h0 : 0 ≤ n) (h1 : n < 18446744073709551616) : IntKind.u64.wrap n = n := by
  rw [IntKind.wrap]
  simp [IntKind.bits, IntKind.signed]
  omega

def numInv (h0 : Hp) (n : Nat) (j : Nat) (st : St) : Prop :=
  ∃ v, j ≤ 8 ∧ st.t 0 = .int .u64 n ∧ st.t 3 = v ∧ st.t 4 = .int .i64 (8 * (j : Int) - 8) ∧ st.d = [] ∧ Own st.h h0.length 1 false v (numB (n / 256 ^ j)).length (bytesV (numB (n / 256 ^ j))) ∧ Frm h0.length h0 st.h

set_option maxHeartbeats 2000000 in
theorem num_spec0 {h : Hp} {n : Nat} (hn : n < 18446744073709551616) : ACalls DX 57 [.int .u64 n] h (fun r h' => r = .ret (.str (numB n)) ∧ Frm h.length h h') := by
  refine acall DX.ok ck57 rfl ?_
  simp [F57]
  have hz : numB (n / 256 ^ 8) = [] := by
    have : n / 256 ^ 8 = 0 := Nat.div_eq_of_lt (by simpa using hn)
    rw [this, numB]; simp
  refine vc_loop _ _ _ (numInv h n) 8 ⟨.nsl, Nat.le_refl _, by simp, by simp, by simp, rfl, by rw [hz]; exact ⟨rfl, .inl ⟨rfl, rfl⟩⟩, Frm.refl (Nat.le_refl _)⟩ ?_
  rintro j ⟨t, h', d⟩ ⟨v, hj, h0, h3, h4, hd, ho, hf⟩
  simp only at h0 h3 h4 hd ho hf
  subst hd
  cases j with
  | zero =>
    simp at ho
    simp [h0, h3, h4]
    have hsl := ho.sl
    have hb : b2sV h' v = some (.str (numB n)) := by
      unfold b2sV
      simp only [hsl.2.1, Bool.false_eq_true, if_false, hsl.1]
      rw [if_pos (bytesV_isByte _), bytesV_back _ _ (fun _ _ => rfl)]
    simp [h3, hb]
    exact hf
  | succ j =>
    have hi0 : (0 : Int) ≤ 8 * ((j : Int) + 1) - 8 := by omega
    have hsh : (8 * ((j : Int) + 1) - 8).toNat = 8 * j := by omega
    have hmin : min (8 * j) IntKind.u64.bits = 8 * j := by have : IntKind.u64.bits = 64 := rfl; omega
    generalize hq : n / 256 ^ j = q at *
    have hq1 : n / 256 ^ (j + 1) = q / 256 := by rw [← hq, Nat.div_div_eq_div_mul, Nat.pow_succ]
    rw [hq1] at ho
    have hfd : (n : Int).fdiv (2 ^ (8 * j)) = (q : Int) := by
      have h2 : (2 : Int) ^ (8 * j) = ((256 ^ j : Nat) : Int) := by
        rw [show (256 : Nat) = 2 ^ 8 from rfl, ← Nat.pow_mul]; simp
      rw [h2, Int.fdiv_eq_ediv_of_nonneg _ (Int.natCast_nonneg _), ← Int.natCast_ediv, hq]
    have hc8 : (8 : Int) ≤ 8 * ((j : Int) + 1) := by omega
    have hcw : IntKind.u8.wrap (q : Int) = (q : Int) % 256 := by rw [wrapu8]; simp
    have hw : IntKind.i64.wrap (8 * ((j : Int) + 1) - 8 - 8) = 8 * (j : Int) - 8 := by rw [wrap64 (by omega) (by omega)]; omega
    have hpos : 0 < (numB (q / 256)).length ↔ q / 256 ≠ 0 := by
      by_cases h0 : q / 256 = 0
      · rw [h0, numB]; simp
      · rw [numB_pos (by omega)]; simp; omega
    by_cases hskip : (q : Int) % 256 = 0 ∧ q / 256 = 0
    · obtain ⟨hc, hq0⟩ := hskip
      have hlen0 : ¬ 0 < (numB (q / 256)).length := by rw [hpos]; simp [hq0]
      have hb : ((q : Int) % 256 != 0) = false := by simp [hc]
      have hq00 : q = 0 := by omega
      simp [h0, h3, h4, hi0, hc8, hsh, hmin, hfd, cviV, hcw, hb, wanted, ho.sl.len, hlen0]
      refine ⟨j, by omega, v, by omega, by simp [h0], by simp [h3], by simp [hw], rfl, ?_, hf⟩
      rw [hq, hq00]
      rw [hq00] at ho
      exact ho
    · have hq00 : 0 < q := by
        rcases Nat.eq_zero_or_pos q with h' | h'
        · subst h'; exact absurd ⟨by simp, by simp⟩ hskip
        · exact h'
      have hz1 : V.lst true [V.int .u8 ((q : Int) % 256)] = .lst true (bytesV [UInt8.ofNat (q % 256)]) := by
        rw [← hcw, wrapu8, ← ofNat_mod]; rfl
      have hl8 : (numB (q / 256)).length ≤ 8 := numB_len 8 (by
        have : n / 256 ^ j ≤ n := Nat.div_le_self _ _
        have h8 : (256 : Nat) ^ 8 = 18446744073709551616 := by decide
        rw [h8]; omega)
      obtain ⟨v', g', a1, a2, a3, _, _, _⟩ := Own.app (bt := 1) (ty := none) (a := .lst true (bytesV [UInt8.ofNat (q % 256)])) hf.1 ho (Fz.bytes true [UInt8.ofNat (q % 256)] h').1 rfl (by simp; unfold room; omega)
      have fin : Own g' h.length 1 false v' (numB q).length (bytesV (numB q)) := by
        rw [numB_pos hq00, bytesV_append, List.length_append]; exact a2
      by_cases hc : (q : Int) % 256 = 0
      · have hb : ((q : Int) % 256 != 0) = false := by simp [hc]
        have hlen0 : 0 < (numB (q / 256)).length := by rw [hpos]; exact fun e => hskip ⟨hc, e⟩
        simp [h0, h3, h4, hi0, hc8, hsh, hmin, hfd, cviV, hcw, hb, wanted, ho.sl.len, hlen0, fillV, V.cells, V.one, setAll, chunk, hz1, a1]
        refine ⟨j, by omega, v', by omega, by simp [h0], by simp, by simp [hw], rfl, by rw [hq]; exact fin, hf.trans a3⟩
      · have hb : ((q : Int) % 256 != 0) = true := by simp [hc]
        simp [h0, h3, h4, hi0, hc8, hsh, hmin, hfd, cviV, hcw, hb, wanted, fillV, V.cells, V.one, setAll, chunk, hz1, a1]
        refine ⟨j, by omega, v', by omega, by simp [h0], by simp, by simp [hw], rfl, by rw [hq]; exact fin, hf.trans a3⟩

theorem num_spec {h : Hp} {n : Nat} (hn : n < 18446744073709551616) (hlow : LowH h.length h) : ACalls DX 57 [.int .u64 n] h (fun r h' => r = .ret (.str (numB n)) ∧ h' = h) :=
  (num_spec0 hn).cut hlow fun r hr => by subst hr; exact .str _
end Go.Proofs.YtfinnljkcgglfaaDoor
namespace Go.Proofs.YtfinnljkcgglfaaDoor
open Go.Vs Go.RowKit
set_option linter.unusedSimpArgs false
set_option linter.unusedVariables false
set_option maxRecDepth 10000

/-- The panic of a text that has not its form. -/
def formP : V := .ifc 43 (.int .i64 4)

theorem need_spec {h : Hp} {b : Bool} : ACalls DX 112 [.bool b] h (fun r h' => h' = h ∧ r = (if b then .ret (.tup []) else .pan formP)) := by
  refine acall DX.ok ck112 rfl ?_
  cases b <;> simp [F112, unV, panV, formP]

/-- A reader in block β: what is left to be read. -/
def Rd (h : Hp) (β : Nat) (s : List UInt8) : Prop := ∃ ty, hget h β = some (.cells [.str s] ty)

set_option maxHeartbeats 1000000 in
theorem take_spec {h : Hp} {β n : Nat} {s : List UInt8} (H : Rd h β s) (hn : s.length < 2 ^ 62) :
    ACalls DX 114 [.ptr β 0, .int .i64 n] h (fun r h' => if n ≤ s.length then r = .ret (.str (s.take n)) ∧ (∃ ty, hget h β = some (.cells [.str s] ty) ∧ h' = h.set β (some (.cells [.str (s.drop n)] ty))) else r = .pan formP ∧ h' = h) := by
  refine acall DX.ok ck114 rfl ?_
  obtain ⟨ty, hg⟩ := H
  simp [F114, nilV, fadV, rd, hg, sub, asV]
  refine need_spec.mono ?_
  rintro r h1 ⟨rfl, rfl⟩
  by_cases hle : n ≤ s.length
  · have : (n : Int) ≤ s.length := by omega
    simp [hle, nilV, fadV, rd, hg, sub, asV, slcV, V.isStr, upTo, stV, wr, V.cells, V.one, setAll]
  · have : ¬ (n : Int) ≤ s.length := by omega
    simp [hle]

theorem wrapByte (c : UInt8) : IntKind.i64.wrap (c.toNat : Int) = c.toNat := by
  have := c.toNat_lt
  rw [wrap64 (by omega) (by omega)]

set_option maxHeartbeats 1000000 in
theorem byte_spec {h : Hp} {β : Nat} {s : List UInt8} (H : Rd h β s) (hn : s.length < 2 ^ 62) :
    ACalls DX 113 [.ptr β 0] h (fun r h' => match s with
      | c :: q => r = .ret (.int .i64 c.toNat) ∧ (∃ ty, hget h β = some (.cells [.str s] ty) ∧ h' = h.set β (some (.cells [.str q] ty)))
      | [] => r = .pan formP ∧ h' = h) := by
  refine acall DX.ok ck113 rfl ?_
  simp [F113]
  refine (take_spec (n := 1) H hn).mono ?_
  rintro r h1 hr
  cases s with
  | nil =>
    simp at hr
    obtain ⟨rfl, rfl⟩ := hr
    simp
  | cons c q =>
    simp at hr
    obtain ⟨rfl, ty, hg, rfl⟩ := hr
    simp [idxsV, cviV, wrapByte, hg]

set_option maxHeartbeats 1000000 in
theorem caught_none {h : Hp} {β : Nat} {R : Bool → Hp → Prop} (hR : R false h) : ACallsD DX 111 [.ptr β 0] h none R := by
  refine acallsD_of DX.ok ck111 rfl ?_
  simp [F111, vcS, vopsS, vopS, wanted, msOf, postS, MS.was, veq, hR]

set_option maxHeartbeats 1000000 in
theorem caught_some {h : Hp} {β : Nat} {c : V} {ty : Option TypeId} {R : Bool → Hp → Prop} (hg : hget h β = some (.cells [c] ty)) (hR : R true (h.set β (some (.cells [.int .i64 4] ty)))) : ACallsD DX 111 [.ptr β 0] h (some formP) R := by
  refine acallsD_of DX.ok ck111 rfl ?_
  simp [F111, vcS, vopsS, vopS, wanted, msOf, postS, MS.was, veq, formP, asrtV, extV, nilV, stV, wr, hg, V.cells, V.one, setAll, hR]

/-- So many texts, each behind its length; and what is left. -/
def readParts : Nat → List UInt8 → Option (List (List UInt8) × List UInt8)
  | 0, s => some ([], s)
  | n + 1, a :: b :: r => if a.toNat * 256 + b.toNat ≤ 4000 ∧ a.toNat * 256 + b.toNat ≤ r.length then (readParts n (r.drop (a.toNat * 256 + b.toNat))).map fun x => (r.take (a.toNat * 256 + b.toNat) :: x.1, x.2) else none
  | _ + 1, _ => none

/-- The kind and the texts of one. -/
def readB (s : List UInt8) : Option (UInt8 × List (List UInt8)) := if s.length ≤ 30000 then (match s with
  | v :: k :: n :: r => if v = 1 then (match readParts n.toNat r with
    | some (l, []) => some (k, l)
    | _ => none) else none
  | _ => none) else none
end Go.Proofs.YtfinnljkcgglfaaDoor
namespace Go.Proofs.YtfinnljkcgglfaaDoor
open Go.Vs Go.RowKit
set_option linter.unusedSimpArgs false
set_option linter.unusedVariables false
set_option maxRecDepth 10000

/-- What 'read' answers: what is read, or that it has not its form. -/
def ReadRes (h : Hp) (s : List UInt8) : Res → Hp → Prop := fun r h' => Frm h.length h h' ∧ match readB s with
  | some (k, l) => ∃ v, r = .ret (.tup [.int .u8 k.toNat, v, .int .i64 0]) ∧ Own h' h.length 1 false v l.length (l.map .str) ∧ (l = [] → v = .nsl)
  | none => ∃ k v n ps, r = .ret (.tup [.int .u8 k, v, .int .i64 4]) ∧ Own h' h.length 1 false v n (List.map V.str ps)

/-- What the heap holds while 'read' runs. -/
def RS (h0 hh : Hp) (q : List UInt8) (v : V) (n : Nat) (ps : List (List UInt8)) : Prop :=
  Frm h0.length h0 hh ∧ h0.length + 1 < hh.length ∧ hget hh h0.length = some (.cells [.int .i64 0] none) ∧ hget hh (h0.length + 1) = some (.cells [.str q] none) ∧
    Own hh h0.length 1 false v n (ps.map .str) ∧ v.blk ≠ some h0.length ∧ v.blk ≠ some (h0.length + 1) ∧ (ps = [] → v = .nsl)

theorem Own.keep {h h' : Hp} {k es : Nat} {ag : Bool} {v : V} {n : Nat} {ys : List V} (H : Own h k es ag v n ys) (hh : ∀ b, v.blk = some b → hget h' b = hget h b) : Own h' k es ag v n ys := by
  obtain ⟨hl, h1 | h1 | ⟨b, cap, ex, rest, ty, rfl, hb, hg, hc, hce⟩⟩ := H
  · exact ⟨hl, .inl h1⟩
  · exact ⟨hl, .inr (.inl h1)⟩
  · exact ⟨hl, .inr (.inr ⟨b, cap, ex, rest, ty, rfl, hb, by rw [hh b rfl]; exact hg, hc, hce⟩)⟩

theorem RS.step {h0 hh : Hp} {q q' : List UInt8} {v : V} {n : Nat} {ps : List (List UInt8)} (H : RS h0 hh q v n ps) : RS h0 (hh.set (h0.length + 1) (some (.cells [.str q'] none))) q' v n ps := by
  obtain ⟨h1, h2, h3, h4, h5, h6, h7, h8⟩ := H
  refine ⟨h1.trans (Frm.set h1.1 (by omega) _), by simpa using h2, by rw [hget_set_ne (by omega)]; exact h3, hget_set h2 _, Own.keep h5 fun b hb => hget_set_ne (fun e => ?_) _, h6, h7, h8⟩
  rw [← e] at hb; exact h7 hb

theorem RS.fail {h0 hh : Hp} {q s : List UInt8} {v : V} {n : Nat} {ps : List (List UInt8)} (H : RS h0 hh q v n ps) {t : Nat → V} {k : Int} (h2 : t 2 = .int .u8 k) (h3 : t 3 = v) (h4 : t 4 = .ptr h0.length 0) (hr : readB s = none) :
    lvs DX [RV.t 2, RV.t 3, RV.c 4 1 false] t (ReadRes h0 s) [(111, [.ptr h0.length 0])] (some formP) hh := by
  obtain ⟨a1, a2, a3, a4, a5, a6, a7, a8⟩ := H
  simp only [lvs]
  refine caught_some a3 ?_
  have hl : h0.length < hh.length := by omega
  simp [lvs, resV, getAll, RV.get, h2, h3, h4, rd, hget_set hl, sub, asV, ReadRes, hr]
  refine ⟨a1.trans (Frm.set a1.1 (Nat.le_refl _) _), k, v, ⟨rfl, rfl⟩, n, ps, Own.keep a5 fun b hb => hget_set_ne (fun e => ?_) _⟩
  rw [← e] at hb; exact a6 hb

theorem RS.byte {h0 hh : Hp} {q : List UInt8} {v : V} {n : Nat} {ps : List (List UInt8)} (H : RS h0 hh q v n ps) (hq : q.length < 2 ^ 62) :
    ACalls DX 113 [.ptr (h0.length + 1) 0] hh (fun r h' => match q with
      | c :: q' => r = .ret (.int .i64 c.toNat) ∧ RS h0 h' q' v n ps
      | [] => r = .pan formP ∧ h' = hh) := by
  refine (byte_spec ⟨none, H.2.2.2.1⟩ hq).mono fun r h' hr => ?_
  cases q with
  | nil => exact hr
  | cons c q' =>
    obtain ⟨h1, ty, h2, rfl⟩ := hr
    rw [H.2.2.2.1] at h2
    simp at h2
    subst h2
    exact ⟨h1, H.step⟩

theorem RS.take {h0 hh : Hp} {q : List UInt8} {v : V} {n m : Nat} {ps : List (List UInt8)} (H : RS h0 hh q v n ps) (hq : q.length < 2 ^ 62) :
    ACalls DX 114 [.ptr (h0.length + 1) 0, .int .i64 m] hh (fun r h' => if m ≤ q.length then r = .ret (.str (q.take m)) ∧ RS h0 h' (q.drop m) v n ps else r = .pan formP ∧ h' = hh) := by
  refine (take_spec ⟨none, H.2.2.2.1⟩ hq).mono fun r h' hr => ?_
  by_cases hm : m ≤ q.length
  · rw [if_pos hm] at hr ⊢
    obtain ⟨h1, ty, h2, rfl⟩ := hr
    rw [H.2.2.2.1] at h2
    simp at h2
    subst h2
    exact ⟨h1, H.step⟩
  · rw [if_neg hm] at hr ⊢
    exact hr

theorem RS.push {h0 hh : Hp} {q p : List UInt8} {v : V} {ps : List (List UInt8)} (H : RS h0 hh q v ps.length ps) (hn : ps.length ≤ 300) :
    ∃ v' h', appR hh 1 16 false none v (.lst true [.str p]) = some (.val v' h') ∧ RS h0 h' q v' (ps ++ [p]).length (ps ++ [p]) := by
  obtain ⟨h1, h2, h3, h4, h5, h6, h7, h8⟩ := H
  obtain ⟨v', h', a1, a2, a3, a4, a5, a6⟩ := Own.app (h := hh) (k := h0.length) (es := 1) (bt := 16) (ag := false) (ty := none) (v := v) (a := .lst true [.str p]) (m := 1) (zs := [.str p]) h1.1 h5 (by simp [src, flat, V.cells]) rfl (by unfold room; omega)
  refine ⟨v', h', a1, h1.trans a3, by omega, by rw [a4 _ (by omega) h6]; exact h3, by rw [a4 _ h2 h7]; exact h4, by simpa using a2, ?_, ?_, by simp⟩
  · rcases a5 with e | e <;> rw [e]
    · exact h6
    · intro e'; injection e' with e'; omega
  · rcases a5 with e | e <;> rw [e]
    · exact h7
    · intro e'; injection e' with e'; omega

theorem readB_ver {c : UInt8} {q : List UInt8} (h : c ≠ 1) : readB (c :: q) = none := by
  unfold readB
  split
  · match q with
    | [] => rfl
    | [_] => rfl
    | _ :: _ :: _ => simp [h]
  · rfl

theorem readB_short0 {c : UInt8} : readB [c] = none := by simp [readB]

theorem readB_short1 {c d : UInt8} : readB [c, d] = none := by simp [readB]

theorem wrapu8_byte (c : UInt8) : IntKind.u8.wrap (c.toNat : Int) = c.toNat := by rw [wrapu8]; simp

def readInv (h : Hp) (k0 : UInt8) (cnt : Nat) (s3 : List UInt8) (m : Nat) (st : St) : Prop :=
  ∃ (i : Nat) (q : List UInt8) (v : V) (ps : List (List UInt8)), m + i = cnt ∧ st.t 2 = .int .u8 k0.toNat ∧ st.t 3 = v ∧ st.t 4 = .ptr h.length 0 ∧ st.t 5 = .ptr (h.length + 1) 0 ∧ st.t 22 = .int .i64 cnt ∧ st.t 23 = .int .i64 i ∧
    st.d = [(111, [.ptr h.length 0])] ∧ RS h st.h q v ps.length ps ∧ q.length ≤ 30000 ∧ i + q.length ≤ 30000 ∧ readParts cnt s3 = (readParts m q).map (fun x => (ps ++ x.1, x.2)) ∧ ps.length = i

theorem readB_three {c k n : UInt8} {r : List UInt8} (hc : c = 1) (hl : (c :: k :: n :: r).length ≤ 30000) : readB (c :: k :: n :: r) = match readParts n.toNat r with
    | some (l, []) => some (k, l)
    | _ => none := by
  subst hc
  unfold readB
  rw [if_pos hl]
  simp only [if_true] <;> (split <;> simp_all)

set_option maxHeartbeats 2000000 in
theorem read_spec0 {h : Hp} {s : List UInt8} (hn : s.length < 2 ^ 62) : ACalls DX 110 [.str s] h (ReadRes h s) := by
  refine acallD DX.ok ck110 rfl ?_
  simp [F110]
  refine need_spec.mono ?_
  rintro r h1 ⟨rfl, rfl⟩
  by_cases h30 : s.length ≤ 30000
  · have : (s.length : Int) ≤ 30000 := by omega
    simp [this, fillV, V.cells, V.one, setAll]
    have R0 : RS h (h ++ [some (.cells [.int .i64 0] none), some (.cells [.str s] none)]) s .nsl 0 [] := by
      refine ⟨Frm.append (Nat.le_refl _) _, by simp, ?_, ?_, ⟨rfl, .inl ⟨rfl, rfl⟩⟩, by simp [V.blk], by simp [V.blk], fun _ => rfl⟩
      · simp [hget]
      · simp [hget]
    generalize h ++ [some (.cells [.int .i64 0] none), some (.cells [.str s] none)] = g0 at R0
    refine (R0.byte hn).mono fun r g1 hr => ?_
    cases hs : s with
    | nil =>
      rw [hs] at hr
      obtain ⟨rfl, rfl⟩ := hr
      rw [hs] at R0
      simp
      exact R0.fail (by simp; rfl) (by simp) (by simp) (by simp [readB])
    | cons c0 s1 =>
      rw [hs] at hr
      obtain ⟨rfl, R1⟩ := hr
      simp
      refine need_spec.mono ?_
      rintro r g1' ⟨rfl, rfl⟩
      have hn1 : s1.length < 2 ^ 62 := by rw [hs] at hn; simp at hn; omega
      by_cases hv : (c0.toNat : Int) = 1
      · have hv0 : c0 = 1 := UInt8.toNat.inj (by have : c0.toNat = 1 := by omega
                                                 rw [this]; rfl)
        simp [hv]
        refine (R1.byte hn1).mono fun r g2 hr2 => ?_
        cases hs1 : s1 with
        | nil =>
          rw [hs1] at hr2
          obtain ⟨rfl, rfl⟩ := hr2
          simp
          exact R1.fail (by simp; rfl) (by simp) (by simp) readB_short0
        | cons k0 s2 =>
          rw [hs1] at hr2
          obtain ⟨rfl, R2⟩ := hr2
          have hn2 : s2.length < 2 ^ 62 := by rw [hs1] at hn1; simp at hn1; omega
          simp [cviV]
          refine (R2.byte hn2).mono fun r g3 hr3 => ?_
          cases hs2 : s2 with
          | nil =>
            rw [hs2] at hr3
            obtain ⟨rfl, rfl⟩ := hr3
            simp
            exact R2.fail (by simp; rfl) (by simp) (by simp) readB_short1
          | cons n0 s3 =>
            rw [hs2] at hr3
            obtain ⟨rfl, R3⟩ := hr3
            have hl3 : (c0 :: k0 :: n0 :: s3).length ≤ 30000 := by rw [hs, hs1, hs2] at h30; exact h30
            have hrb := readB_three (k := k0) (n := n0) (r := s3) hv0 hl3
            simp only [List.length_cons] at hl3
            simp [wrapu8_byte]
            refine vc_loop _ _ _ (readInv h k0 n0.toNat s3) n0.toNat ⟨0, s3, .nsl, [], by omega, by simp, by simp, by simp, by simp, by simp, by simp, rfl, R3, by omega, by omega, by simp, rfl⟩ ?_
            rintro m ⟨t, h', d⟩ ⟨i, q, v, ps, hm, h2, h3, h4, h5, h22, h23, hd, R, hq, hiq, hrp, hpi⟩
            simp only at h2 h3 h4 h5 h22 h23 hd R
            subst hd
            cases m with
            | zero =>
              have hi : ¬ ((i : Int) < (n0.toNat : Int)) := by omega
              simp [h22, h23, hi, h5, nilV, fadV, rd, R.2.2.2.1, sub, asV, strBin]
              refine need_spec.mono ?_
              rintro r g4 ⟨rfl, rfl⟩
              have hz : readParts n0.toNat s3 = some (ps, q) := by rw [hrp]; simp [readParts]
              cases q with
              | nil =>
                have hl : h.length < g4.length := by have := R.2.1; omega
                simp [stV, h4, wr, V.cells, V.one, setAll, R.2.2.1, lvs, h2, h3]
                refine caught_none ?_
                simp [lvs, resV, getAll, RV.get, h2, h3, h4, rd, hget_set hl, sub, asV, ReadRes, hrb, hz]
                refine ⟨R.1.trans (Frm.set R.1.1 (Nat.le_refl _) _), ?_, R.2.2.2.2.2.2.2⟩
                exact Own.keep R.2.2.2.2.1 fun b hb => hget_set_ne (fun e => by rw [← e] at hb; exact R.2.2.2.2.2.1 hb) _
              | cons q0 q' =>
                simp
                refine R.fail (k := k0.toNat) (by simp [h2]) (by simp [h3]) (by simp [h4]) ?_
                rw [hrb, hz]
            | succ m =>
              have hi : ((i : Int) < (n0.toNat : Int)) := by omega
              simp [h22, h23, hi, h5]
              refine (R.byte (by omega)).mono fun r g4 hr4 => ?_
              cases hqe : q with
              | nil =>
                rw [hqe] at hr4
                obtain ⟨rfl, rfl⟩ := hr4
                simp
                refine R.fail (k := k0.toNat) (by simp [h2]) (by simp [h3]) (by simp [h4]) ?_
                rw [hrb, hrp, hqe]; rfl
              | cons a q1 =>
                rw [hqe] at hr4
                obtain ⟨rfl, R4⟩ := hr4
                have hql : q1.length + 1 ≤ 30000 := by rw [hqe] at hq; simpa using hq
                have hsh : IntKind.i64.wrap ((a.toNat : Int) * 2 ^ min 8 IntKind.i64.bits) = ((a.toNat * 256 : Nat) : Int) := by
                  have h1 : (2 : Int) ^ min 8 IntKind.i64.bits = 256 := by decide
                  have h2 := a.toNat_lt
                  rw [h1, wrap64 (by omega) (by omega)]; omega
                simp [hsh, h5]
                refine (R4.byte (by omega)).mono fun r g5 hr5 => ?_
                cases hqe1 : q1 with
                | nil =>
                  rw [hqe1] at hr5
                  obtain ⟨rfl, rfl⟩ := hr5
                  simp
                  refine R4.fail (k := k0.toNat) (by simp [h2]) (by simp [h3]) (by simp [h4]) ?_
                  rw [hrb, hrp, hqe, hqe1]; rfl
                | cons b q2 =>
                  rw [hqe1] at hr5
                  obtain ⟨rfl, R5⟩ := hr5
                  have ha := a.toNat_lt
                  have hb := b.toNat_lt
                  obtain ⟨N, hN⟩ : ∃ N : Nat, N = a.toNat * 256 + b.toNat := ⟨_, rfl⟩
                  have hw : IntKind.i64.wrap ((a.toNat : Int) * 256 + b.toNat) = (N : Int) := by
                    rw [wrap64 (by omega) (by omega)]; omega
                  have hql2 : q2.length + 1 + 1 ≤ 30000 := by rw [hqe1] at hql; simpa using hql
                  have hrp2 : readParts (m + 1) q = if a.toNat * 256 + b.toNat ≤ 4000 ∧ a.toNat * 256 + b.toNat ≤ q2.length then (readParts m (q2.drop (a.toNat * 256 + b.toNat))).map fun x => (q2.take (a.toNat * 256 + b.toNat) :: x.1, x.2) else none := by
                    rw [hqe, hqe1]; rfl
                  have hiq2 : i + (q2.length + 1 + 1) ≤ 30000 := by rw [hqe, hqe1] at hiq; simpa using hiq
                  rw [← hN] at hrp2
                  simp [h5, hw]
                  refine need_spec.mono ?_
                  rintro r g6 ⟨rfl, rfl⟩
                  by_cases hN4 : N ≤ 4000
                  · have : (N : Int) ≤ 4000 := by omega
                    simp [this, h3, h5]
                    refine (R5.take (m := N) (by omega)).mono fun r g7 hr7 => ?_
                    by_cases hNq : N ≤ q2.length
                    · rw [if_pos hNq] at hr7
                      obtain ⟨rfl, R7⟩ := hr7
                      obtain ⟨v', g8, e8, R8⟩ := R7.push (p := q2.take N) (by have := n0.toNat_lt; omega)
                      have hw1 : IntKind.i64.wrap ((i : Int) + 1) = ((i + 1 : Nat) : Int) := by have := n0.toNat_lt; rw [wrap64 (by omega) (by omega)]; omega
                      simp [fillV, V.cells, V.one, setAll, chunk, e8, h23]
                      refine ⟨m, by omega, i + 1, q2.drop N, v', ps ++ [q2.take N], by omega, by simp [h2], by simp, by simp [h4], by simp [h5], by simp [h22], by simp [hw1], rfl, R8, by simp; omega, by simp; omega, ?_, by simp [hpi]⟩
                      rw [hrp, hrp2, if_pos ⟨hN4, hNq⟩]
                      cases readParts m (q2.drop N) <;> simp
                    · rw [if_neg hNq] at hr7
                      obtain ⟨rfl, rfl⟩ := hr7
                      simp
                      refine R5.fail (k := k0.toNat) (by simp [h2]) (by simp [h3]) (by simp [h4]) ?_
                      rw [hrb, hrp, hrp2, if_neg (by omega)]; rfl
                  · have : ¬ (N : Int) ≤ 4000 := by omega
                    simp [this]
                    refine R5.fail (k := k0.toNat) (by simp [h2]) (by simp [h3]) (by simp [h4]) ?_
                    rw [hrb, hrp, hrp2, if_neg (by omega)]; rfl
      · have hv1 : c0 ≠ 1 := fun e => hv (by rw [e]; rfl)
        simp [hv]
        exact R1.fail (by simp; rfl) (by simp) (by simp) (readB_ver hv1)
  · have : ¬ (s.length : Int) ≤ 30000 := by omega
    simp [this, lvs]
    refine caught_some (β := h.length) (c := .int .i64 0) (ty := none) (hget_new _ _) ?_
    have hr : readB s = none := by simp [readB, h30]
    simp [lvs, resV, getAll, RV.get, rd, hget, sub, asV, ReadRes, hr]
    exact ⟨Frm.append (Nat.le_refl _) _, 0, .nsl, ⟨rfl, rfl⟩, 0, [], rfl, .inl ⟨rfl, rfl⟩⟩
end Go.Proofs.YtfinnljkcgglfaaDoor
namespace Go.Proofs.YtfinnljkcgglfaaDoor
open Go.Vs Go.RowKit
set_option linter.unusedSimpArgs false
set_option linter.unusedVariables false
set_option maxRecDepth 10000

/-- Texts that nobody writes. -/
def frz (ps : List (List UInt8)) : V := if ps = [] then .nsl else .lst false (ps.map .str)

theorem chunk_str (ps : List (List UInt8)) : chunk 1 false ps.length (ps.map V.str) = ps.map V.str := by
  induction ps with
  | nil => rfl
  | cons p r ih => simp only [List.length_cons, chunk, List.map_cons, List.headD_cons, List.drop_succ_cons, List.drop_zero, ih]; rfl

theorem Own.frz {h : Hp} {k : Nat} {v : V} {ps : List (List UInt8)} (H : Own h k 1 false v ps.length (ps.map .str)) (h0 : ps = [] → v = .nsl) : Ice h k v (frz ps) := by
  unfold YtfinnljkcgglfaaDoor.frz
  split
  · rename_i he; rw [h0 he]; exact .low _ .nsl
  · rename_i he
    obtain ⟨hl, ⟨rfl, h1⟩ | ⟨rfl, h1⟩ | ⟨b, cap, ex, rest, ty, rfl, hb, hg, hc, hce⟩⟩ := H
    · exact absurd (List.eq_nil_of_length_eq_zero h1) he
    · exact absurd (List.eq_nil_of_length_eq_zero h1) he
    · have e := Ice.sl (h := h) (k := k) b 0 ps.length cap ex 1 false _ ty (ps.map .str) (ps.map .str) hb hg (by simp [sub]) (fun _ => rfl) rfl (fun j x y hx hy => by
        rw [hx] at hy; cases hy
        exact .low _ ((str_low _ (List.mem_of_getElem? hx)).mono (Nat.zero_le _))) str_one
      rw [chunk_str] at e; exact e

/-- What 'read' answers, its texts frozen. -/
def ReadI (s : List UInt8) (r : Res) : Prop := match readB s with
  | some (k, l) => r = .ret (.tup [.int .u8 k.toNat, frz l, .int .i64 0])
  | none => ∃ k v, r = .ret (.tup [.int .u8 k, v, .int .i64 4])

theorem Ice.tup3 {h : Hp} {k : Nat} {a b c a' b' c' : V} (h1 : Ice h k a a') (h2 : Ice h k b b') (h3 : Ice h k c c') : Ice h k (.tup [a, b, c]) (.tup [a', b', c']) := by
  refine .tup _ _ rfl fun j x y hx hy => ?_
  match j with
  | 0 => simp at hx hy; subst hx; subst hy; exact h1
  | 1 => simp at hx hy; subst hx; subst hy; exact h2
  | 2 => simp at hx hy; subst hx; subst hy; exact h3
  | j + 3 => simp at hx

theorem read_spec {h : Hp} {s : List UInt8} (hn : s.length < 2 ^ 62) (hlow : LowH h.length h) : ACalls DX 110 [.str s] h (fun r h' => ReadI s r ∧ h' = h) := by
  refine (read_spec0 hn).ice fun r h' ⟨hf, hr⟩ => ⟨hf.1, hlow.frm hf, ?_⟩
  cases hb : readB s with
  | some x =>
    obtain ⟨k, l⟩ := x
    rw [hb] at hr
    obtain ⟨v, rfl, ho, h0⟩ := hr
    refine ⟨.ret (.tup [.int .u8 k.toNat, frz l, .int .i64 0]), Ice.tup3 (.low _ (.int _ _)) (Own.frz ho h0) (.low _ (.int _ _)), by simp only [ReadI, hb], by rw [hf.2]; simp⟩
  | none =>
    rw [hb] at hr
    obtain ⟨k, v, n, ps, rfl, ho⟩ := hr
    obtain ⟨v', h1, h2⟩ := ho.ice (fun _ => rfl) str_one str_low
    exact ⟨.ret (.tup [.int .u8 k, v', .int .i64 4]), Ice.tup3 (.low _ (.int _ _)) h1 (.low _ (.int _ _)), by simp only [ReadI, hb]; exact ⟨k, v', rfl⟩, by rw [hf.2]; simp⟩

/-- What 'Split' answers. -/
def splitV (s : List UInt8) : V := match readB s with
  | some (k, l) => .tup [.int .u8 k.toNat, frz l, .int .i64 0]
  | none => .tup [.int .u8 0, .nsl, .int .i64 4]

theorem split_spec {h : Hp} {s : List UInt8} (hn : s.length < 2 ^ 62) (hlow : LowH h.length h) : ACalls DX 109 [.str s] h (fun r h' => r = .ret (splitV s) ∧ h' = h) := by
  refine acall DX.ok ck109 rfl ?_
  simp [F109]
  refine (read_spec hn hlow).mono ?_
  rintro r h' ⟨hr, rfl⟩
  unfold ReadI at hr
  cases hb : readB s with
  | some x =>
    obtain ⟨k, l⟩ := x
    rw [hb] at hr
    subst hr
    simp [extV, splitV, hb]
  | none =>
    rw [hb] at hr
    obtain ⟨k, v, rfl⟩ := hr
    simp [extV, splitV, hb]

end Go.Proofs.YtfinnljkcgglfaaDoor
namespace Go.Proofs.YtfinnljkcgglfaaDoor
open Go.Vs Go.RowKit
set_option linter.unusedSimpArgs false
set_option linter.unusedVariables false
set_option maxRecDepth 10000

end Go.Proofs.YtfinnljkcgglfaaDoor
