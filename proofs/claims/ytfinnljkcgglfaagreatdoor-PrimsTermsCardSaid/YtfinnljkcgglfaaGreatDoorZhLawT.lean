/- PrimsTerms: the law. -/
import Derived.Test.YtfinnljkcgglfaaGreatDoorZhKeysT
import Derived.Test.YtfinnljkcgglfaaGreatDoorZhAl2
namespace Go.Proofs.YtfinnljkcgglfaaGreatDoor
open Go Go.Vs Go.RowKit
set_option maxRecDepth 100000
set_option linter.unusedSimpArgs false
set_option linter.unusedVariables false
attribute [local simp] unV extV wanted strBin vpt vpn vmp nilV_ptr vic

def twoV (A B : List UInt8) (N : Nat) (Ad X : List UInt8) : List V := [.str A, .str B, .int .u64 N, .str Ad, .str X]
theorem few_spec (A B : List UInt8) (N : Nat) (Ad X : List UInt8) : PCalls GX 7 [.agg (twoV A B N Ad X)] fun r => r = .ret (.bool (decide (A.length ≤ 1000 ∧ B.length ≤ 1000 ∧ Ad.length ≤ 1000 ∧ X.length ≤ 1000))) := by
  refine PCalls.of (acall GX.ok ck7 rfl ?_) fun r hr => by subst hr; exact .bool _
  have q : ∀ o, rd [some (.cells [.str A, .str B, .int .u64 N, .str Ad, .str X] none)] (.ptr 0 o) 1 = sub [.str A, .str B, .int .u64 N, .str Ad, .str X] o 1 := fun o => by simp [rd, hget]
  simp [F7, twoV, V.cells, V.one, fadV, q, sub, asV, lenV]
  by_cases h1 : A.length ≤ 1000
  · have h1' : (A.length : Int) ≤ 1000 := by omega
    by_cases h2 : B.length ≤ 1000
    · have h2' : (B.length : Int) ≤ 1000 := by omega
      by_cases h3 : Ad.length ≤ 1000
      · have h3' : (Ad.length : Int) ≤ 1000 := by omega
        by_cases h4 : X.length ≤ 1000
        · have h4' : (X.length : Int) ≤ 1000 := by omega
          simp [h1, h1', h2, h2', h3, h3', h4, h4', fadV, q, sub, asV, lenV]
        · have h4' : ¬ (X.length : Int) ≤ 1000 := by omega
          simp [h1, h1', h2, h2', h3, h3', h4, h4', fadV, q, sub, asV, lenV]
      · have h3' : ¬ (Ad.length : Int) ≤ 1000 := by omega
        simp [h1, h1', h2, h2', h3, h3', fadV, q, sub, asV, lenV]
    · have h2' : ¬ (B.length : Int) ≤ 1000 := by omega
      simp [h1, h1', h2, h2', fadV, q, sub, asV, lenV]
  · have h1' : ¬ (A.length : Int) ≤ 1000 := by omega
    simp [h1, h1', fadV, q, sub, asV, lenV]

theorem new_spec (h : Hp) : ACalls GX 13 [] h fun r h' => r = .ret (.ptr (h.length + 2) 0) ∧ h' = h ++ [some (.map []), some (.map []), some (.cells [.map h.length, .map (h.length + 1), .nsl] none)] := by
  refine acall GX.ok ck13 rfl ?_
  simp [F13, aop_mkmV, fillV, setAll, V.cells, V.one]
theorem symbol_spec (b : Nat) (h : Hp) : ACalls GX 14 [.ptr b 0] h fun r h' => r = .ret (.ifc 75 (.agg [.ptr b 0])) ∧ h' = h := by
  refine acall GX.ok ck14 rfl ?_
  simp [F14, fillV, setAll, V.cells, V.one]

theorem iPub (args : List V) : invVV GX "Pub" args (.ifc 75 (.agg [.ptr 3 0])) = some (.call 16 (.ptr 3 0 :: args)) := rfl
theorem iDh (args : List V) : invVV GX "Dh" args (.ifc 75 (.agg [.ptr 3 0])) = some (.call 15 (.ptr 3 0 :: args)) := rfl
theorem iSeal (args : List V) : invVV GX "Seal" args (.ifc 75 (.agg [.ptr 3 0])) = some (.call 18 (.ptr 3 0 :: args)) := rfl
theorem iHash (args : List V) : invVV GX "Hash" args (.ifc 75 (.agg [.ptr 3 0])) = some (.call 131 (.agg [.ptr 3 0] :: args)) := rfl
theorem iKeys (args : List V) : invVV GX "Keys" args (.ifc 75 (.agg [.ptr 3 0])) = some (.call 132 (.agg [.ptr 3 0] :: args)) := rfl

theorem LW.q {h : Hp} {al : V} {ks : List (List UInt8)} {A B : List UInt8} {N : Nat} {Ad X : List UInt8} (L : LW h al ks (twoV A B N Ad X)) :
    rd h (.ptr 0 0) 1 = some [.str A] ∧ rd h (.ptr 0 1) 1 = some [.str B] ∧ rd h (.ptr 0 2) 1 = some [.int .u64 N] ∧ rd h (.ptr 0 3) 1 = some [.str Ad] ∧ rd h (.ptr 0 4) 1 = some [.str X] := by
  have hb := L.box
  refine ⟨?_, ?_, ?_, ?_, ?_⟩ <;> (rw [rd_cell hb]; rfl)
theorem LW0 (c5 : List V) : LW [some (.cells c5 none), some (.map []), some (.map []), some (.cells [.map 1, .map 2, .nsl] none)] .nsl [] c5 :=
  ⟨⟨rfl, rfl, rfl, ⟨rfl, .inl ⟨rfl, rfl⟩⟩, by omega, by omega, by omega, (fun e => by cases e), (fun e => by cases e), (fun e => by cases e), by simp, fun k hk => by cases hk⟩, rfl, (fun c e => by cases e), by simp⟩

theorem dhOf_name {ks : List (List UInt8)} {a : List UInt8} {j : Nat} (ha : a.length ≤ 4000) (h : pos ks (joinB 2 [a]) 0 = some j) : dhOf ks (nameB (j + 1)) = some a := by
  unfold dhOf
  have hg := (pos_some h).2
  rw [what_name ks 0 j (Nat.zero_le _), hg]
  simp only
  rw [readB_joinB (by simp) (by simpa using ha) (by simp [joinB, part]; omega)]
  simp
theorem LW.dh {h h' : Hp} {al : V} {ks : List (List UInt8)} {c5 : List V} (L : LW h al ks c5) {s p a : List UInt8} {r : Res} (hd : dhOf ks p = some a) (H : DhR h 3 1 2 al ks s p r h') :
    ∃ al', r = .ret (.tup [.str (nameB (putN ks (joinB 3 (two s a)) + 1)), .bool true]) ∧ LW h' al' (putT ks (joinB 3 (two s a))) c5 := by
  unfold DhR at H
  rw [hd] at H
  obtain ⟨al', rfl, T', R', B'⟩ := H
  refine ⟨al', rfl, T', ?_, fun c hc => ?_, Nat.le_trans L.len R'.1⟩
  · rw [R'.2 0 (by have := L.len; omega) (by omega) (by omega) (by omega) (fun e => by have := L.ge 0 e; omega)]; exact L.box
  · rcases B' c hc with hb | hb
    · exact L.ge c hb
    · have := L.len; omega
end Go.Proofs.YtfinnljkcgglfaaGreatDoor
