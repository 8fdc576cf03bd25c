/- The check that an operation is the one that an instruction tells, and that it does so. -/
import Derived.Test.YtpefpiccljohlaaZvRunA
namespace Go.Vs
open Go.RowKit

def ckParts (l : List (Nat × Nat)) : List (Nat × Operand) → List (Nat × Nat × O) → Bool
  | [], [] => true
  | (i, p) :: r, (o, n, a) :: s => l[i]? == some (o, n) && ckO p a && ckParts l r s
  | _, _ => false

def ckPartsI : List (Nat × Operand) → List (Nat × O) → Bool
  | [], [] => true
  | (i, p) :: r, (j, a) :: s => i == j && ckO p a && ckPartsI r s
  | _, _ => false

def ckPartsA (es : Nat) : List (Nat × Operand) → List (Nat × Nat × O) → Bool
  | [], [] => true
  | (i, p) :: r, (o, n, a) :: s => o == i * es && n == es && ckO p a && ckPartsA es r s
  | _, _ => false

def zeroPat (z : Value) (n : Nat) : List Value := if n = 0 then [] else (List.range n).map fun i => z.cells.toList.getD (i % z.cells.size) default

def ckOo : Option Operand → Option O → Bool
  | none, none => true
  | some p, some a => ckO p a
  | _, _ => false

def isI64 (k : Operand) : Bool := match k with
  | .const (.int .i64 _) => true
  | _ => false

def isPtr (P : Program) (t : TypeId) : Option Bool := (P.underlying t).map fun | .pointer _ => true | _ => false

/-- A method's row, where the receiver is the value itself or one part of it. -/
def ckM (P : Program) (t : TypeId) (m : String) (f : FuncId) (p : Option Nat) : Bool := match P.info? t with
  | some i => match i.methods.find? (·.name == m), p with
    | some r, none => r.path.isEmpty && (match r.func with
      | some (g, b) => g == f && isPtr P t == some b
      | none => false)
    | some r, some off => (match r.path.toList, r.func with
      | [s], some (g, b) => g == f && b && !s.deref && (match P.underlying s.struct with
        | some (.struct fs) => match fs[s.index]? with
          | some fd => fd.offset == off && tAg P fd.type == some false && isPtr P fd.type == some true
          | none => false
        | _ => false)
      | _, _ => false)
    | none, _ => false
  | none => false

def XOk (x : X) : Prop := ∀ t m f p, x.M t m = some (f, p) → ckM x.P t m f p = true

def ckTy (t : TypeId) : Option TypeId → Bool
  | none => true
  | some T => T == t

theorem ckTy_spec {t : TypeId} {ty : Option TypeId} (h : ckTy t ty = true) : ∀ T, ty = some T → T = t := by
  intro T hT
  subst hT
  simpa [ckTy] using h

def ckAppT (P : Program) (t1 t2 : TypeId) (es bt : Nat) (ty : Option TypeId) : Bool := match P.underlying t1 with
  | some (.slice e) => ckTy e ty && (match P.underlying t2 with
      | some .string => true
      | some (.slice _) => true
      | _ => false) && (match P.info? e with
      | some i => i.size == es && i.bytes == bt && (match i.zero with | some z => z.cells.size == es | none => false)
      | none => false) && decide (1 ≤ bt) && decide (bt ≤ 65536)
  | _ => false

def ckI (P : Program) (o : Op) (i : I) : Bool := match o, i with
  | .move p, .mov a => ckO p a
  | .assign p, .mov a => ckO p a
  | .pick c p q, .pick c' a b => ckO c c' && ckO p a && ckO q b
  | .alloc t, .new z ty => ckTy t ty && (match tZero P t with
    | some zv => ckVs zv.cells.toList z
    | none => false)
  | .box e p, .box ty a => ckTy e ty && ckO p a
  | .build t ps, .build z qs => match tZero P t, P.underlying t with
    | some zv, some (.struct fs) => (match places P fs.toList with
      | some l => ckVs zv.cells.toList z && ckParts l ps.toList qs
      | none => false)
    | some zv, some (.array _ e) => (match tSize P e with
      | some es => ckVs zv.cells.toList z && ckPartsA es ps.toList qs
      | none => false)
    | _, _ => false
  | .buildSlice t n ps, .mks _ es _ ag z len qs => match P.underlying t with
    | some (.slice e) => tSize P e == some es && tAg P e == some ag && (ag || es == 1) && n == len && decide (n * es ≤ 2 ^ 24) && (match tZero P e with
      | some zv => ckVs (zeroPat zv (n * es)) z
      | none => false) && ckPartsI ps.toList qs && z.length == n * es
    | _ => false
  | .load t p, .load n ag a => tSize P t == some n && tAg P t == some ag && ckO p a
  | .store t p q, .store n a b => tSize P t == some n && ckO p a && ckO q b
  | .nilCheck p, .nilck a => ckO p a
  | .binOp op t p q _, .bin op' k a b => op == op' && ckBin P op t k a b && ckO p a && ckO q b
  | .binOp op t p q _, .pne a b => op == .neq && (match P.underlying t with
    | some (.pointer e) => (P.info? e).isSome
    | _ => false) && ckO p a && ckO q b
  | .unOp op _ p, .un op' a => op == op' && ckO p a
  | .convert s d p, .cvi k a => (P.underlying s).isSome && (match P.underlying d with | some (.int k') => k == k' | _ => false) && ckO p a
  | .convert s d p, .cvs a => (P.underlying s).isSome && (match P.underlying d with | some .string => true | _ => false) && ckO p a
  | .convert s d p, .s2b _ a => (P.underlying s).isSome && (match P.underlying d with
    | some (.slice e) => (match P.underlying e with | some (.int .u8) => true | _ => false)
    | _ => false) && ckO p a
  | .convert s d p, .b2s a => (match P.underlying s with
    | some (.slice e) => (match P.underlying e with | some (.int .u8) => true | _ => false)
    | _ => false) && (match P.underlying d with | some .string => true | _ => false) && ckO p a
  | .convert s d p, .toU a => (match P.underlying s with
    | some (.pointer t) => (match P.info? t with | some j => j.size != 0 | none => false)
    | _ => false) && (match P.underlying d with | some .unsafePointer => true | _ => false) && ckO p a
  | .convert s d p, .frU kt n a => (match P.underlying s with | some .unsafePointer => true | _ => false) && (match P.underlying d with
    | some (.pointer t) => t == kt && (P.info? t).isSome && P.cellsOf t == n && n != 0
    | _ => false) && ckO p a
  | .sliceToArrayPointer t p, .arrp n es a => (match P.underlying t with
    | some (.array m e) => m == n && tSize P e == some es
    | _ => false) && ckO p a
  | .makeInterface t p, .mki t' a => t == t' && (match P.underlying t with
    | some (.interface _) => false
    | some _ => true
    | none => false) && ckO p a
  | .makeFunc f fi ca, .mkf g fi' ca' => (match f, g with | .func a, .func b => a == b | _, _ => false) && ckOs fi.toList fi' && ckOs ca.toList ca'
  | .makeMap _ none, .mkm => true
  | .makeSlice t p q, .mksl es bt ag z a b => (match P.underlying t with
    | some (.slice e) => (match P.info? e with
      | some i => i.size == es && i.bytes == bt && tAg P e == some ag && (match i.zero with | some zv => zv.cells.size == es && ckVs zv.cells.toList z | none => false)
      | none => false)
    | _ => false) && ckO p a && ckO q b
  | .slice t p lo hi mx, .slc st es a lo' hi' mx' => (match P.underlying t with
    | some .string => st
    | some (.slice e) => !st && tSize P e == some es
    | _ => false) && ckO p a && ckOo lo lo' && ckOo hi hi' && ckOo mx mx' && (mx.isNone || hi.isSome)
  | .slice t p lo hi mx, .slca n es ag a lo' hi' mx' => (match P.underlying t with
    | some (.array m e) => m == n && tSize P e == some es && tAg P e == some ag && (ag || es == 1)
    | _ => false) && ckO p a && ckOo lo lo' && ckOo hi hi' && ckOo mx mx' && (mx.isNone || hi.isSome)
  | .fieldAddr t p f, .fad off a => (match P.underlying t with
    | some (.struct fs) => (match fs[f]? with
      | some fd => fd.offset == off && (match tSize P fd.type with | some n => n != 0 | none => false)
      | none => false)
    | _ => false) && ckO p a
  | .field t p f, .fld off n ag a => (match P.underlying t with
    | some (.struct fs) => (match fs[f]? with
      | some fd => fd.offset == off && tSize P fd.type == some n && tAg P fd.type == some ag
      | none => false)
    | _ => false) && ckO p a
  | .indexAddr t p q, .iad es a b => (match P.underlying t with
    | some (.slice e) => tSize P e == some es
    | _ => false) && ckO p a && ckO q b
  | .indexAddr t p q, .iada n es a b => (match P.underlying t with
    | some (.array m e) => m == n && tSize P e == some es
    | _ => false) && ckO p a && ckO q b
  | .index t p q, .idxs a b => (match P.underlying t with | some .string => true | _ => false) && ckO p a && ckO q b
  | .index t p q, .idxa n es ag a b => (match P.underlying t with
    | some (.array m e) => m == n && tSize P e == some es && tAg P e == some ag
    | _ => false) && ckO p a && ckO q b
  | .lookup t p q ok, .look k z a b ok' => (match P.underlying t with
    | some (.map kt et) => (match P.underlying kt with | some td => keyQ td k | none => false) && (match tZero P et with | some zv => ckV zv z | none => false)
    | _ => false) && ckO p a && ckO q b && ok == ok'
  | .mapUpdate t p q r, .upd k a b c => (match P.underlying t with
    | some (.map kt _) => (match P.underlying kt with | some td => keyQ td k | none => false)
    | _ => false) && ckO p a && ckO q b && ckO r c
  | .insert t p q r, .upd k a b c => (match P.underlying t with
    | some (.map kt _) => (match P.underlying kt with | some td => keyQ td k | none => false)
    | _ => false) && ckO p a && ckO q b && ckO r c
  | .typeAssert p _ t ok, .asrt t' z a ok' => t == t' && ok == ok' && (match P.underlying t with
    | some (.interface _) => false
    | some _ => true
    | none => false) && (match tZero P t with | some zv => ckV zv z | none => false) && ckO p a
  | .extract p n, .ext a m => n == m && ckO p a
  | .call c, i => (match c.callee, i with
    | .builtin .len, .len q a => (match c.args.toList, c.argTypes.toList with
      | [p], [t] => ckO p a && (q == .str || q == .slc || q == .map) && ckQ P t q
      | _, _ => false)
    | .builtin .len, .lenc n => (match c.argTypes.toList, c.args.toList with
      | [t], [_] => (match P.underlying t with
        | some (.array m _) => m == n
        | _ => false)
      | _, _ => false)
    | .builtin .append, .app es bt _ kt a b => (match c.args.toList, c.argTypes.toList with
      | [p, q], [t1, t2] => ckO p a && ckO q b && ckAppT P t1 t2 es bt kt
      | _, _ => false)
    | .builtin .copy, .cpy es a b => (match c.args.toList, c.argTypes.toList with
      | [p, q], [t1, _] => ckO p a && ckO q b && (match P.underlying t1 with
        | some (.slice e) => tSize P e == some es
        | _ => false)
      | _, _ => false)
    | .builtin .clear, .clr z a => (match c.args.toList, c.argTypes.toList with
      | [p], [t] => ckO p a && (match P.underlying t with
        | some (.slice e) => (match tZero P e with | some zv => ckVs zv.cells.toList z | none => false)
        | _ => false)
      | _, _ => false)
    | .builtin .max, .max a b => (match c.args.toList with
      | [p, q] => ckO p a && ckO q b
      | _ => false)
    | .builtin .min, .min a b => (match c.args.toList with
      | [p, q] => ckO p a && ckO q b
      | _ => false)
    | .builtin .unsafeSliceData, .sld a => (match c.args.toList with
      | [p] => ckO p a
      | _ => false)
    | .builtin .unsafeString, .ustr kt a b => (match c.args.toList, c.argTypes.toList with
      | [p, q], [pt, _] => ckO p a && ckO q b && (match P.underlying pt with
        | some (.pointer e) => e == kt && P.cellsOf e == 1
        | _ => false)
      | _, _ => false)
    | .value (.func f), .noEsc a => (match P.funcs[f]? with
      | some fn => fn.name == "internal/abi.NoEscape" && fn.origin == "" && fn.body.isNone
      | none => false) && (match c.args.toList with
      | [p] => ckO p a
      | _ => false)
    | .value p, .call a as => ckO p a && ckOs c.args.toList as
    | .invoke r m, .inv a m' as => m == m' && ckO r a && ckOs c.args.toList as
    | _, _ => false)
  | .defer c, .dfr a as => (match c.callee with
    | .value p => ckO p a && ckOs c.args.toList as
    | _ => false)
  | .panic p, .pan a => ckO p a
  | _, _ => false

section
variable {w0 w : World} {E : Env} {h : Hp} {x : X}

theorem ckParts_spec {l : List (Nat × Nat)} {t : Nat → V} {a : Act} (hg : GR x E) (ht : ∀ n, VR E (t n) (a.tmps.getD n undef)) : ∀ {ps : List (Nat × Operand)} {qs : List (Nat × Nat × O)}, ckParts l ps qs = true →
    (ps.map fun (i, p) => (i, a.eval p)).length = (qs.map fun (o, n, b) => (o, n, b.ev x t)).length ∧ ∀ (j : Nat) p q, (ps.map fun (i, p) => (i, a.eval p))[j]? = some p → (qs.map fun (o, n, b) => (o, n, b.ev x t))[j]? = some q → l[p.1]? = some (q.1, q.2.1) ∧ VR E q.2.2 p.2
  | [], [], _ => ⟨rfl, fun j p q hp => by simp at hp⟩
  | (i, p) :: r, (o, n, b) :: s, h => by
    simp only [ckParts, Bool.and_eq_true, beq_iff_eq] at h
    obtain ⟨h1, h2⟩ := ckParts_spec hg ht h.2
    refine ⟨by simpa using h1, fun j p' q' hp hq => ?_⟩
    cases j with
    | zero => simp at hp hq; subst hp; subst hq; exact ⟨h.1.1, ckO_spec hg ht h.1.2⟩
    | succ j => exact h2 j p' q' (by simpa using hp) (by simpa using hq)
  | [], _ :: _, h => by simp [ckParts] at h
  | _ :: _, [], h => by simp [ckParts] at h

theorem ckPartsA_spec {es : Nat} {t : Nat → V} {a : Act} (hg : GR x E) (ht : ∀ n, VR E (t n) (a.tmps.getD n undef)) : ∀ {ps : List (Nat × Operand)} {qs : List (Nat × Nat × O)}, ckPartsA es ps qs = true →
    (ps.map fun (i, p) => (i, a.eval p)).length = (qs.map fun (o, n, b) => (o, n, b.ev x t)).length ∧ ∀ (j : Nat) p q, (ps.map fun (i, p) => (i, a.eval p))[j]? = some p → (qs.map fun (o, n, b) => (o, n, b.ev x t))[j]? = some q → (q.1 = p.1 * es ∧ q.2.1 = es) ∧ VR E q.2.2 p.2
  | [], [], _ => ⟨rfl, fun j p q hp => by simp at hp⟩
  | (i, p) :: r, (o, n, b) :: s, h => by
    simp only [ckPartsA, Bool.and_eq_true, beq_iff_eq] at h
    obtain ⟨h1, h2⟩ := ckPartsA_spec hg ht h.2
    refine ⟨by simpa using h1, fun j p' q' hp hq => ?_⟩
    cases j with
    | zero => simp at hp hq; subst hp; subst hq; exact ⟨h.1.1, ckO_spec hg ht h.1.2⟩
    | succ j => exact h2 j p' q' (by simpa using hp) (by simpa using hq)
  | [], _ :: _, h => by simp [ckPartsA] at h
  | _ :: _, [], h => by simp [ckPartsA] at h

theorem ckPartsI_spec {es : Nat} {t : Nat → V} {a : Act} (hg : GR x E) (ht : ∀ n, VR E (t n) (a.tmps.getD n undef)) : ∀ {ps : List (Nat × Operand)} {qs : List (Nat × O)}, ckPartsI ps qs = true →
    (ps.map fun (i, p) => (i, a.eval p)).length = (qs.map fun (i, b) => (i * es, es, b.ev x t)).length ∧ ∀ (j : Nat) p q, (ps.map fun (i, p) => (i, a.eval p))[j]? = some p → (qs.map fun (i, b) => (i * es, es, b.ev x t))[j]? = some q → (q.1 = p.1 * es ∧ q.2.1 = es) ∧ VR E q.2.2 p.2
  | [], [], _ => ⟨rfl, fun j p q hp => by simp at hp⟩
  | (i, p) :: r, (o, b) :: s, h => by
    simp only [ckPartsI, Bool.and_eq_true, beq_iff_eq] at h
    obtain ⟨h1, h2⟩ := ckPartsI_spec (es := es) hg ht h.2
    refine ⟨by simpa using h1, fun j p' q' hp hq => ?_⟩
    cases j with
    | zero => simp at hp hq; subst hp; subst hq; exact ⟨⟨by rw [h.1.1], rfl⟩, ckO_spec hg ht h.1.2⟩
    | succ j => exact h2 j p' q' (by simpa using hp) (by simpa using hq)
  | [], _ :: _, h => by simp [ckPartsI] at h
  | _ :: _, [], h => by simp [ckPartsI] at h

theorem ckAppT_spec {P : Program} {t1 t2 : TypeId} {es bt : Nat} {kt : Option TypeId} (hc : ckAppT P t1 t2 es bt kt = true) : ∃ e i z, AppT P t1 t2 es bt e i z ∧ ∀ T, kt = some T → T = e := by
  unfold ckAppT at hc
  split at hc
  · rename_i e he
    simp only [Bool.and_eq_true, decide_eq_true_eq] at hc
    obtain ⟨⟨⟨⟨hkt, h1⟩, h2⟩, h3⟩, h4⟩ := hc
    split at h2
    · rename_i i hi
      simp only [Bool.and_eq_true, beq_iff_eq] at h2
      obtain ⟨⟨h5, h6⟩, h7⟩ := h2
      split at h7
      · rename_i z hz
        refine ⟨e, i, z, ⟨he, ?_, hi, h5, h6, hz, by simpa using h7, h3, h4⟩, ckTy_spec hkt⟩
        split at h1
        · rename_i hu; exact .inl hu
        · rename_i e' hu; exact .inr ⟨e', hu⟩
        · cases h1
      · cases h7
    · cases h2
  · cases hc

/-- A bound, as both sides see it. -/
theorem bnd_spec {t : Nat → V} {a : Act} {d r : Nat} {P : Program} (hg : GR x E) (ht : ∀ n, VR E (t n) (a.tmps.getD n undef)) {p : Option Operand} {o : Option O} (hc : ckOo p o = true) (hb : bnd x t d o = some r) : Bd w P (p.map a.eval) d r := by
  cases p with
  | none =>
    cases o with
    | none => simp [bnd] at hb; exact hb.symm
    | some o => simp [ckOo] at hc
  | some p =>
    cases o with
    | none => simp [ckOo] at hc
    | some o =>
      have hv := ckO_spec (x := x) hg ht (p := p) (o := o) hc
      simp only [bnd] at hb
      split at hb
      · rename_i k n hk
        split at hb
        · rename_i hn
          cases hb
          rw [hk] at hv
          simp only [Option.map_some, Bd]
          generalize a.eval p = u at *
          cases hv
          exact ⟨k, by congr 1; omega⟩
        · cases hb
      · cases hb
end
end Go.Vs
