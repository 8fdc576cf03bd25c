/- Each instruction, as the machine runs it (3): arithmetic, comparisons, conversions, strings. -/
import Derived.Test.YtpefpiccljohlaaZvRun2
import Derived.Lib.ConvBytes
import Derived.Laws.BytesString
import Derived.Lib.Strings
namespace Go.Vs
open Go.RowKit
set_option linter.unusedSimpArgs false
set_option linter.unusedVariables false

section
variable {w0 w : World} {E : Env} {h : Hp} {x : X}

theorem run_int {P : Program} {op : BinOp} {t : TypeId} {k k' : IntKind} {a b : Int} {v : V} {w : World} (hv : binV op .num (.int k a) (.int k' b) = some v) :
    ∃ u, (binOp op t (.int k a) (.int k' b)).run P w = .ok u w ∧ ∀ E, VR E v u := by
  cases op
  case shl | shr =>
    simp only [binV] at hv
    split at hv
    · rename_i hb
      cases hv
      refine ⟨.int k _, ?_, fun E => .int _ _⟩
      simp only [binOp, Op.shift]
      rw [if_neg (by omega)]
      rfl
    · cases hv
  all_goals
    simp only [binV] at hv
    split at hv
    · rename_i hk
      subst hk
      simp only [intBin] at hv
      first
        | (split at hv
           · cases hv
           · rename_i hb
             cases hv
             refine ⟨_, ?_, fun E => .int _ _⟩
             simp only [binOp, ne_eq, not_true_eq_false, if_false, Op.intDiv, hb]
             rfl)
        | (cases hv
           first
             | (refine ⟨_, ?_, fun E => .int _ _⟩
                simp only [binOp, ne_eq, not_true_eq_false, if_false, Op.intArith, Op.intBits, Op.intCmp]
                rfl)
             | (refine ⟨_, ?_, fun E => .bool _⟩
                simp only [binOp, ne_eq, not_true_eq_false, if_false, Op.intArith, Op.intBits, Op.intCmp]
                rfl))
    · cases hv

theorem run_str {P : Program} {op : BinOp} {t : TypeId} {a b : List UInt8} {v : V} {w : World} (hv : strBin op a b = some v) :
    ∃ u, (binOp op t (.string ⟨a.toArray⟩) (.string ⟨b.toArray⟩)).run P w = .ok u w ∧ ∀ E, VR E v u := by
  cases op
  case add =>
    simp only [strBin] at hv
    split at hv
    · rename_i hb
      cases hv
      refine ⟨.string ⟨(a ++ b).toArray⟩, ?_, fun E => .str _⟩
      have h1 : (⟨a.toArray⟩ : ByteArray).size = a.length := rfl
      have h2 : (⟨b.toArray⟩ : ByteArray).size = b.length := rfl
      simp only [binOp, Op.stringOp, h1, h2]
      rw [if_neg (by unfold room at hb; have : IntKind.i64.max = 9223372036854775807 := by decide
                     rw [this]; omega)]
      have : (⟨a.toArray⟩ ++ ⟨b.toArray⟩ : ByteArray) = ⟨(a ++ b).toArray⟩ := by
        rw [← Lib.mk_data (⟨a.toArray⟩ ++ ⟨b.toArray⟩)]; simp [ByteArray.data_append]
      rw [this]; rfl
    · cases hv
  all_goals
    simp only [strBin] at hv
    first
      | (cases hv; done)
      | (cases hv
         refine ⟨_, ?_, fun E => .bool _⟩
         simp only [binOp, Op.stringOp, ByteArray.toList_mk]
         rfl)

theorem run_uni {P : Program} {op : UnOp} {a v : V} {u : Value} {E : Env} {w : World} (hu : VR E a u) (hv : unV op a = some v) :
    ∃ r, (Op.unary op u).run P w = .ok r w ∧ VR E v r := by
  unfold unV at hv
  split at hv
  · cases hv; cases hu; exact ⟨_, rfl, .bool _⟩
  · cases hv; cases hu; exact ⟨_, rfl, .int _ _⟩
  · cases hv; cases hu; exact ⟨_, rfl, .int _ _⟩
  · cases hv

/-- A type's kind, as comparisons want it. -/
def qOf (d : TypeDesc) : Option Q := match d with
  | .bool => some .bool
  | .int _ => some .num
  | .string => some .str
  | .pointer _ => some .ptr
  | .slice _ => some .slc
  | .map _ _ => some .map
  | .func _ _ _ => some .fn
  | .interface _ => some .ifc
  | _ => none

def ckQ (P : Program) (t : TypeId) (q : Q) : Bool := match P.underlying t with
  | some d => qOf d == some q
  | none => false

theorem ckQ_spec {P : Program} {t : TypeId} {q : Q} (h : ckQ P t q = true) : ∃ d, P.underlying t = some d ∧ qOf d = some q := by
  unfold ckQ at h
  split at h
  · rename_i d hd; exact ⟨d, hd, by simpa using h⟩
  · cases h

theorem run_equalIn1 {P : Program} {t : TypeId} {q : Q} {a b : V} {ua ub : Value} {r : Bool} {w : World} {E : Env} {d : Nat} (ht : ckQ P t q = true) (ha : VR E a ua) (hb : VR E b ub) (hv : veq q a b = some r) :
    (Op.equalIn (d + 1) t ua ub).run P w = .ok r w := by
  obtain ⟨td, hu, hq⟩ := ckQ_spec ht
  rw [Op.equalIn]
  simp only [Sem.run_bind, run_underlying hu, Result.andThen_ok]
  unfold veq at hv
  split at hv
  · split at hv
    · rename_i hk
      cases ha; cases hb; cases hv
      cases td <;> simp [qOf] at hq
      simp [hk]
    · cases hv
  all_goals first
    | (cases ha; cases hb; cases hv; cases td <;> simp [qOf] at hq; simp; done)
    | (cases ha; cases hb; cases hv; cases td <;> simp [qOf] at hq; simp [beq_toListBytes]; done)
    | (cases td <;> simp [qOf] at hq; done)
    | (cases hv; done)

theorem run_equal1 {P : Program} {t : TypeId} {q : Q} {a b : V} {ua ub : Value} {r : Bool} {w : World} {E : Env} (ht : ckQ P t q = true) (ha : VR E a ua) (hb : VR E b ub) (hv : veq q a b = some r) :
    (Op.equal t ua ub).run P w = .ok r w := run_equalIn1 (d := 9999) ht ha hb hv
end
end Go.Vs
