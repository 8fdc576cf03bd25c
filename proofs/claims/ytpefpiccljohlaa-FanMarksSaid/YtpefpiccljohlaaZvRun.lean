/- Each instruction, as the machine runs it. -/
import Derived.Test.YtpefpiccljohlaaZvNew
import Derived.Laws.Strings
import Derived.Laws.Entries
import Derived.Laws.StructEq
namespace Go.Vs
open Go.RowKit

def tZero (P : Program) (t : TypeId) : Option Value := (P.info? t).bind (·.zero)
def tSize (P : Program) (t : TypeId) : Option Nat := (P.info? t).map (·.size)
def tBytes (P : Program) (t : TypeId) : Option Nat := (P.info? t).map (·.bytes)
def tAg (P : Program) (t : TypeId) : Option Bool := (P.underlying t).map fun
  | .struct _ => true
  | .array _ _ => true
  | _ => false

/-- A constant of one cell. -/
def ckV1 : Value → V → Bool
  | .bool a, .bool b => a == b
  | .int j a, .int k b => j == k && a == b
  | .string s, .str l => s.data.toList == l
  | .pointer none, .nptr => true
  | .slice none 0 0, .nsl => true
  | .map none, .nmap => true
  | .nilFunc, .nfn => true
  | .nilIface, .nifc => true
  | _, _ => false

def ckVs : List Value → List V → Bool
  | [], [] => true
  | v :: r, x :: s => ckV1 v x && ckVs r s
  | _, _ => false

def ckV (v : Value) (x : V) : Bool := match v, x with
  | .agg vs, .agg xs => ckVs vs.toList xs
  | v, x => ckV1 v x

def ckO : Operand → O → Bool
  | .tmp a, .t b => a == b
  | .const v, .k x => ckV v x
  | .func f, .k (.fn (.func g) [] []) => f == g
  | .global g, .g h => g == h
  | _, _ => false

def ckOs : List Operand → List O → Bool
  | [], [] => true
  | a :: r, b :: s => ckO a b && ckOs r s
  | _, _ => false

theorem ckV1_spec {E : Env} {v : Value} {x : V} (h : ckV1 v x = true) : VR E x v ∧ v.oneCell' = true := by
  unfold ckV1 at h
  split at h
  · simp at h; subst h; exact ⟨.bool _, rfl⟩
  · simp at h; obtain ⟨rfl, rfl⟩ := h; exact ⟨.int _ _, rfl⟩
  · rename_i s l
    simp at h
    subst h
    have := VR.str (E := E) s.data.toList
    simp only [Array.toArray_toList] at this
    exact ⟨this, rfl⟩
  · exact ⟨.nptr, rfl⟩
  · exact ⟨.nsl, rfl⟩
  · exact ⟨.nmap, rfl⟩
  · exact ⟨.nfn, rfl⟩
  · exact ⟨.nifc, rfl⟩
  · cases h

theorem ckVs_spec {E : Env} : ∀ {vs : List Value} {xs : List V}, ckVs vs xs = true → Vals E xs vs
  | [], [], _ => ⟨rfl, fun j u hu => by simp at hu⟩
  | v :: r, x :: s, h => by
    simp only [ckVs, Bool.and_eq_true] at h
    obtain ⟨h1, h2⟩ := ckVs_spec (E := E) h.2
    obtain ⟨hx, ho⟩ := ckV1_spec (E := E) h.1
    refine ⟨by simp [h1], fun j u hu => ?_⟩
    cases j with
    | zero => simp at hu; subst hu; exact ⟨ho, fun y hy => by simp at hy; subst hy; exact hx⟩
    | succ j => exact ⟨(h2 j u (by simpa using hu)).1, fun y hy => (h2 j u (by simpa using hu)).2 y (by simpa using hy)⟩
  | [], _ :: _, h => by simp [ckVs] at h
  | _ :: _, [], h => by simp [ckVs] at h

theorem Vals.agg {E : Env} {l : List V} {vs : List Value} (hv : Vals E l vs) : VR E (.agg l) (.agg vs.toArray) :=
  .agg l _ (by simpa using hv.1) (fun j x v hx hu => (hv.2 j v (by simpa using hu)).2 x hx) (fun j v hu => (hv.2 j v (by simpa using hu)).1)

theorem ckV_spec {E : Env} {v : Value} {x : V} (h : ckV v x = true) : VR E x v := by
  unfold ckV at h
  split at h
  · have := (ckVs_spec (E := E) h).agg; simpa using this
  · exact (ckV1_spec h).1

theorem ckO_spec {x : X} {E : Env} {t : Nat → V} {a : Act} (hg : GR x E) (ht : ∀ n, VR E (t n) (a.tmps.getD n undef)) {p : Operand} {o : O} (h : ckO p o = true) : VR E (o.ev x t) (a.eval p) := by
  unfold ckO at h
  split at h
  · simp at h; subst h; exact ht _
  · exact ckV_spec h
  · simp at h; subst h; exact .fn _ [] [] #[] #[] rfl rfl (fun j x v hx => by simp at hx) (fun j x v hx => by simp at hx)
  · simp at h; subst h; exact hg _
  · cases h

theorem ckOs_spec {x : X} {E : Env} {t : Nat → V} {a : Act} (hg : GR x E) (ht : ∀ n, VR E (t n) (a.tmps.getD n undef)) : ∀ {ps : List Operand} {os : List O}, ckOs ps os = true →
    (ps.map a.eval).length = (evs x t os).length ∧ ∀ (j : Nat) y v, (evs x t os)[j]? = some y → (ps.map a.eval)[j]? = some v → VR E y v
  | [], [], _ => ⟨rfl, fun j y v hy => by simp [evs] at hy⟩
  | p :: r, o :: s, h => by
    simp only [ckOs, Bool.and_eq_true] at h
    obtain ⟨h1, h2⟩ := ckOs_spec hg ht h.2
    have h0 := ckO_spec hg ht h.1
    refine ⟨by simpa [evs] using h1, fun j y v hy hv => ?_⟩
    cases j with
    | zero => simp [evs] at hy hv; subst hy; subst hv; exact h0
    | succ j => exact h2 j y v (by simpa [evs] using hy) (by simpa using hv)
  | [], _ :: _, h => by simp [ckOs] at h
  | _ :: _, [], h => by simp [ckOs] at h

section
variable {w0 w : World} {E : Env} {h : Hp} {x : X}

theorem run_zero {P : Program} {t : TypeId} {z : Value} (hz : tZero P t = some z) (w : World) : (zeroValue t).run P w = .ok z w := by
  unfold tZero at hz
  cases hi : P.info? t with
  | none => rw [hi] at hz; cases hz
  | some i =>
    rw [hi] at hz
    simp only [Option.bind_some] at hz
    simp [zeroValue, typeInfo, hi, hz]
theorem run_size {P : Program} {t : TypeId} {n : Nat} (hn : tSize P t = some n) (w : World) : (sizeOf t).run P w = .ok n w := by
  unfold tSize at hn
  cases hi : P.info? t with
  | none => rw [hi] at hn; cases hn
  | some i => rw [hi] at hn; simp at hn; simp [sizeOf, typeInfo, hi, hn]
theorem run_isAgg {P : Program} {t : TypeId} {b : Bool} (hb : tAg P t = some b) (w : World) : (isAgg t).run P w = .ok b w := by
  unfold tAg at hb
  cases hi : P.underlying t with
  | none => rw [hi] at hb; cases hb
  | some i => rw [hi] at hb; simp at hb; subst hb; simp only [isAgg, Sem.run_bind, run_underlying hi, Result.andThen_ok]; cases i <;> rfl

/-- What an instruction's machine run has to come to. -/
def Does (x : X) (w0 : World) (E : Env) (w : World) (r : Result Next) : Option Rz → Prop
  | none => True
  | some (.val v h') => ∃ u E' w', Le E E' ∧ r = .ok (.value u) w' ∧ VR E' v u ∧ SR w0 E' h' w'
  | some (.skip h') => ∃ E' w', Le E E' ∧ r = .ok .skip w' ∧ SR w0 E' h' w'
  | some (.call f args) => callable x.P f = true → ∃ vs, r = .ok (.enter f vs) w ∧ VRs E args vs
  | some (.dfr f args) => ∃ d cap, r = .ok (.defer d) w ∧ d.target = .fn (.func f) cap ∧ VRs E args (d.args ++ cap)
  | some (.pan v) => ∃ u, r = .halt (.panic u) w ∧ VR E v u

theorem Does.same {r : Result Next} {v : V} {u : Value} (H : SR w0 E h w) (hr : r = .ok (.value u) w) (hv : VR E v u) : Does x w0 E w r (some (.val v h)) :=
  ⟨u, E, w, Le.refl E, hr, hv, H⟩

theorem does_new {t : TypeId} {z : Value} {zs : List V} {ty : Option TypeId} (H : SR w0 E h w) (hz : tZero x.P t = some z) (hc : ckVs z.cells.toList zs = true) (hty : ∀ T, ty = some T → T = t) :
    Does x w0 E w ((do pure (.value (← Instr.alloc t true (.tuple #[]))) : Sem Next).run x.P w) (some (.val (.ptr h.length 0) (h ++ [some (.cells zs ty)]))) := by
  refine ⟨.pointer (some ⟨w.heap.size, 0, none⟩), E.add (newLoc w z.cells.size), w.alloc (.cells z.cells t), Le.add _ _, ?_, VR.newPtr H _, ?_⟩
  · simp [Instr.alloc, run_zero hz, newVar, newRow]
  · exact H.newCellsT (Made.alloc w z.cells t) (TyR.alloc w _ _ hty) (ckVs_spec hc) (fun j u hu => by simpa using hu)

theorem does_box {t : TypeId} {a : V} {u : Value} {ty : Option TypeId} (hty : ∀ T, ty = some T → T = t) (H : SR w0 E h w) (hv : VR E a u) (h1 : ∀ c ∈ a.cells, c.one = true) :
    Does x w0 E w ((do pure (.value (← Instr.box t u)) : Sem Next).run x.P w) (some (.val (.ptr h.length 0) (h ++ [some (.cells a.cells ty)]))) := by
  refine ⟨.pointer (some ⟨w.heap.size, 0, none⟩), E.add (newLoc w u.cells.size), w.alloc (.cells u.cells t), Le.add _ _, ?_, VR.newPtr H _, ?_⟩
  · simp [Instr.box, newVar, newRow]
  · exact H.newCellsT (Made.alloc w u.cells t) (TyR.alloc w _ _ hty) (hv.vals h1) (fun j u hu => by simpa using hu)

theorem does_load {t : TypeId} {n : Nat} {ag : Bool} {a v : V} {u : Value} {l : List V} (H : SR w0 E h w) (hs : tSize x.P t = some n) (ha : tAg x.P t = some ag) (hu : VR E a u) (hr : rd h a n = some l) (hv : asV ag l = some v) :
    Does x w0 E w ((do pure (.value (← Instr.loadAt t u)) : Sem Next).run x.P w) (some (.val v h)) := by
  obtain ⟨b, p, vs, rfl, hrow, hln⟩ := rd_row H hu hr
  rcases asV_spec hv with ⟨rfl, rfl⟩ | ⟨rfl, rfl⟩
  · have hl := hrow.loads (P := x.P)
    rw [hln] at hl
    exact Does.same H (by simp [Instr.loadAt, Instr.sureAddr, loadVar, run_isAgg ha, run_size hs, hl]) hrow.agg
  · have h1 : 0 < vs.length := by rw [hrow.1]; simp
    have h0 := hrow.2 0 vs[0] (List.getElem?_eq_getElem h1)
    refine Does.same (u := vs[0]) H ?_ (h0.2.2 v rfl)
    have hc := h0.1
    simp only [Nat.add_zero] at hc
    simp [Instr.loadAt, Instr.sureAddr, loadVar, run_isAgg ha, hc]

theorem does_store {t : TypeId} {n β o : Nat} {v : V} {pu u : Value} {h' : Hp} (H : SR w0 E h w) (hs : tSize x.P t = some n) (hp : VR E (.ptr β o) pu) (hu : VR E v u) (hn : v.cells.length = n)
    (h1 : ∀ c ∈ v.cells, c.one = true) (hw : wr h β o v.cells = some h') :
    Does x w0 E w ((do Instr.storeAt t pu u; pure Next.skip : Sem Next).run x.P w) (some (.skip h')) := by
  obtain ⟨l, hm, hsr, hrun⟩ := H.write (P := x.P) hw (hu.vals h1)
  cases hp with
  | ptr _ _ a hn' ha =>
    rw [ha l hm]
    refine ⟨E, _, Le.refl _, ?_, hsr⟩
    have hsz : u.cells.size = n := by rw [← hn]; exact hu.cells.1
    simp [Instr.storeAt, Instr.sureAddr, storeVar, run_size hs, hsz, hrun]
end
end Go.Vs
