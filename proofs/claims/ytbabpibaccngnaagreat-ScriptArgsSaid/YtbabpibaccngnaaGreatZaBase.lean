/- A world that nothing has come to: what its calls answer at a step that is none. -/
import Derived.Test.YtbabpibaccngnaaGreatZkRef3
namespace Go.Proofs.YtbabpibaccngnaaGreat
open Go Go.Vs Go.RowKit
set_option maxRecDepth 100000
set_option linter.unusedSimpArgs false
set_option linter.unusedVariables false
attribute [local simp] unV extV wanted strBin

theorem vp1 (b o : Nat) : veq .ptr (.ptr b o) .nptr = some false := rfl
theorem vp2 : veq .ptr .nptr .nptr = some true := rfl
theorem np1 (x : X) (h : Hp) (b o : Nat) : nilV x h (.ptr b o) = some (.val (.ptr b o) h) := rfl
attribute [local simp] vp1 vp2 np1

/-- A device that nothing was told. -/
def Nd (K : Nat) (h : Hp) (v : V) : Prop := ∃ β c0 c1 c2 c3 c4 c5 c7 c8 c9 ty, v = .ptr β 0 ∧ β < K ∧ hget h β = some (.cells [c0, c1, c2, c3, c4, c5, .nsl, c7, c8, c9] ty)
/-- A world with n devices, in the blocks below K. -/
def Wd (K : Nat) (h : Hp) (w n : Nat) : Prop := ∃ (p s d g : V) (ty : Option TypeId) (b cap : Nat) (ex : Bool) (ps rest : List V) (ty2 : Option TypeId), w < K ∧ b < K ∧ hget h w = some (.cells [p, s, d, .sl b 0 n cap ex 1 false, g] ty) ∧ hget h b = some (.cells (ps ++ rest) ty2) ∧ ps.length = n ∧
  ∀ (i : Nat) (v : V), ps[i]? = some v → Nd K h v
theorem Wd.keep {K : Nat} {h h' : Hp} {w n : Nat} (H : Wd K h w n) (hk : ∀ c, c < K → hget h' c = hget h c) : Wd K h' w n := by
  obtain ⟨p, s, d, g, ty, b, cap, ex, ps, rest, ty2, h1, h2, h3, h4, h5, h6⟩ := H
  refine ⟨p, s, d, g, ty, b, cap, ex, ps, rest, ty2, h1, h2, by rw [hk _ h1]; exact h3, by rw [hk _ h2]; exact h4, h5, fun i v hv => ?_⟩
  obtain ⟨β, c0, c1, c2, c3, c4, c5, c7, c8, c9, ty, g1, g2, g3⟩ := h6 i v hv
  exact ⟨β, c0, c1, c2, c3, c4, c5, c7, c8, c9, ty, g1, g2, by rw [hk _ g2]; exact g3⟩

theorem at_spec {K : Nat} {h : Hp} {w n a : Nat} (H : Wd K h w n) (ha : a < n) (hn : n ≤ 6) : ACalls CX 124 [.ptr w 0, .int .u8 a] h fun r h' => (∃ v, r = .ret v ∧ Nd K h v) ∧ h' = h := by
  obtain ⟨p, s, d, g, ty, b, cap, ex, ps, rest, ty2, h1, h2, h3, h4, h5, h6⟩ := H
  obtain ⟨v, hv⟩ : ∃ v, ps[a]? = some v := ⟨_, List.getElem?_eq_getElem (by omega)⟩
  have hnd := h6 a v hv
  have e1 : rd h (.ptr w 3) 1 = some [.sl b 0 n cap ex 1 false] := by simp [rd, h3, sub]
  have e2 : rd h (.ptr b a) 1 = some [v] := by
    simp only [rd, h4, sub]
    rw [if_pos (by simp; omega)]
    rw [List.drop_append_of_le_length (by omega)]
    rw [List.drop_eq_getElem_cons (by omega)]
    rw [List.getElem?_eq_getElem (by omega)] at hv
    simp only [Option.some.injEq] at hv
    simp [hv]
  have e3 : iadV 1 (.sl b 0 n cap ex 1 false) (.int .u8 a) = some (.ptr b a) := by
    simp only [iadV]
    simp
    omega
  have c1 : cviV .i64 (.int .u8 a) = some (.int .i64 a) := by
    simp only [cviV, Option.some.injEq, V.int.injEq, true_and]
    exact wrap64 (by omega) (by omega)
  have hc : ¬ (n : Int) ≤ a := by omega
  have hc' : (a : Int) < n := by omega
  obtain ⟨β, d0, d1, d2, d3, d4, d5, d7, d8, d9, ty', g1, g2, g3⟩ := hnd
  subst g1
  refine acall CX.ok ck124 rfl ?_
  simp [F124, e1, e2, e3, c1, fadV, lenV, hc, hc', asV]
  exact ⟨β, d0, d1, d2, d3, d4, d5, d7, d8, d9, ty', rfl, g2, g3⟩

theorem clone0 : PCalls CX 125 [.nsl] fun r => r = .ret .nsl := by
  refine PCalls.of (acall CX.ok ck125 rfl ?_) fun r hr => by subst hr; exact .nsl
  simp [F125, show veq Q.slc V.nsl V.nsl = some true from rfl]

theorem told_spec {K : Nat} {h : Hp} {w n a : Nat} (H : Wd K h w n) (ha : a < n) (hn : n ≤ 6) : ACalls CX 71 [.ptr w 0, .int .u8 a] h fun r h' => r = .ret .nsl ∧ h' = h := by
  refine acall CX.ok ck71 rfl ?_
  simp [F71]
  refine (at_spec H ha hn).mono ?_
  rintro r h' ⟨⟨v, rfl, β, d0, d1, d2, d3, d4, d5, d7, d8, d9, ty', rfl, g2, g3⟩, rfl⟩
  have e1 : rd h' (.ptr β 6) 1 = some [.nsl] := by simp [rd, g3, sub]
  simp [fadV, e1, asV]
  refine (PCalls.at CX.low clone0 (fun a ha => by simp at ha; subst ha; exact .nsl) _).mono ?_
  rintro r h' ⟨rfl, rfl⟩
  simp

def zstep : List V := [.int .i64 0, .int .u8 0, .int .u8 0, .int .u64 0, .str []]
def kinds : List (V × V) := [(.int .i64 1, .fn (.func 112) [] []), (.int .i64 2, .fn (.func 113) [] []), (.int .i64 3, .fn (.func 114) [] []), (.int .i64 4, .fn (.func 115) [] []), (.int .i64 5, .fn (.func 116) [] []), (.int .i64 6, .fn (.func 117) [] []), (.int .i64 7, .fn (.func 118) [] []), (.int .i64 8, .fn (.func 119) [] []), (.int .i64 9, .fn (.func 120) [] []), (.int .i64 10, .fn (.func 121) [] []), (.int .i64 11, .fn (.func 122) [] []), (.int .i64 12, .fn (.func 123) [] [])]

def updVV (h : Hp) (q : Q) : V → V → V → Option Rz
  | .map b, k, v => match hget h b with
    | some (.map es) => (putM q k v es).map fun es => .skip (h.set b (some (.map es)))
    | _ => none
  | _, _, _ => none
theorem aop_updV {x : X} {t : Nat → V} {h : Hp} (q : Q) (m k v : O) : aop x t h (.upd q m k v) = updVV h q (m.ev x t) (k.ev x t) (v.ev x t) := by
  simp only [aop, updVV]
  generalize m.ev x t = u
  cases u <;> rfl
def lookVV (h : Hp) (q : Q) (zero : V) (ok : Bool) : V → V → Option Rz
  | .nmap, _ => some (.val (if ok then .tup [zero, .bool false] else zero) h)
  | .map b, k => match hget h b with
    | some (.map es) => (findM q k es).map fun r => .val (if ok then .tup [r.getD zero, .bool r.isSome] else r.getD zero) h
    | _ => none
  | _, _ => none
theorem aop_lookV {x : X} {t : Nat → V} {h : Hp} (q : Q) (z : V) (ok : Bool) (m k : O) : aop x t h (.look q z m k ok) = lookVV h q z ok (m.ev x t) (k.ev x t) := by
  simp only [aop, lookVV]
  generalize m.ev x t = u
  cases u <;> rfl
theorem aop_mkmV {x : X} {t : Nat → V} {h : Hp} : aop x t h .mkm = some (.val (.map h.length) (h ++ [some (.map [])])) := rfl
theorem hg1 (h : Hp) (a b : Option Blk) : hget (h ++ [a, b]) (h.length + 1) = b := by
  unfold hget; rw [List.getElem?_append_right (by omega)]; simp
theorem hg0 (h : Hp) (a : Option Blk) (l : Hp) : hget (h ++ a :: l) h.length = a := by
  unfold hget; rw [List.getElem?_append_right (by omega)]; simp
theorem st1 (h : Hp) (a b x : Option Blk) : (h ++ [a, b]).set (h.length + 1) x = h ++ [a, x] := by
  rw [List.set_append_right _ _ (by omega)]; simp
theorem updVV_1 (h : Hp) (a : Option Blk) (es : List (V × V)) (q : Q) (k v : V) : updVV (h ++ [a, some (.map es)]) q (.map (h.length + 1)) k v = (putM q k v es).map fun es => .skip (h ++ [a, some (.map es)]) := by
  simp only [updVV, hg1, st1]
theorem lookVV_1 (h : Hp) (a : Option Blk) (es : List (V × V)) (q : Q) (z k : V) (ok : Bool) : lookVV (h ++ [a, some (.map es)]) q z ok (.map (h.length + 1)) k = (findM q k es).map fun r => .val (if ok then .tup [r.getD z, .bool r.isSome] else r.getD z) (h ++ [a, some (.map es)]) := by
  simp only [lookVV, hg1]
theorem rd1 (h : Hp) (cs : List V) (ty : Option TypeId) (l : Hp) (o n : Nat) : rd (h ++ some (.cells cs ty) :: l) (.ptr h.length o) n = sub cs o n := by
  simp only [rd, hg0]
theorem do_spec {K : Nat} {h : Hp} {w n : Nat} (H : Wd K h w n) (hK : K ≤ h.length) (h0 : 0 < n) (hn : n ≤ 6) : ACalls CX 70 [.ptr w 0, .agg zstep] h fun r h' => r = .ret (.tup [.str [], .int .i64 2]) ∧ Frm h.length h h' := by
  have H0 := H
  obtain ⟨p, s, d, g, ty, b, cap, ex, ps, rest, ty2, h1, h2, h3, h4, h5, h6⟩ := H
  have e1 : ∀ l, rd (h ++ l) (.ptr w 3) 1 = some [.sl b 0 n cap ex 1 false] := fun l => by
    have := hget_old (show w < h.length by omega) l
    simp [rd, this, h3, sub]
  have hn0 : ¬ (n : Int) = 0 := by omega
  have hn0' : ((n : Int) == 0) = false := by simp; omega
  refine acall CX.ok ck70 rfl ?_
  simp [F70, zstep, V.cells, V.one, fadV, e1, asV, lenV, hn0, hn0', aop_updV, aop_lookV, aop_mkmV, updVV_1, lookVV_1, putM, findM, veq, veq1, rd1, sub]
  refine vD_lin ?_
  simp [vLs, vLg, vLq, dstO, nth_zero, nth_succ, nd, tell, fadV, asV, rd1, sub]
  have hW : ∀ l, Wd K (h ++ l) w n := fun l => H0.keep fun c hc => hget_old (by omega) l
  refine (at_spec (a := 0) (hW _) h0 hn).mono ?_
  rintro r h' ⟨⟨v, rfl, hv⟩, rfl⟩
  simp [reL, vLs, vLg, vLq, dstO, nth_zero, nth_succ, nd, tell, fadV, asV, rd1, sub]
  refine (at_spec (a := 0) (hW _) h0 hn).mono ?_
  rintro r h' ⟨⟨v2, rfl, hv2⟩, rfl⟩
  simp [reL, vLs, vLg, vLq, dstO, nth_zero, nth_succ, nd, tell, fadV, asV, rd1, sub]
  exact Frm.append (Nat.le_refl _) _
end Go.Proofs.YtbabpibaccngnaaGreat
