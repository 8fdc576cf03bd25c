/- What is to be shown of a function's code, and why that is enough. -/
import Derived.Test.YtpefpiccljohlaaZvOps
namespace Go.Vs
open Go.RowKit

structure St where
  t : Nat → V
  h : Hp
  d : List (FuncId × List V)

inductive Ex where
  | normal
  | exit (id : Nat)
  | ret
  | pan (v : V)

inductive Res where
  | ret (v : V)
  | pan (v : V)

def put (t : Nat → V) (d : Option Nat) (v : V) : Nat → V := match d with
  | some d => fun n => if n = d then v else t n
  | none => t

def udf : V := .tup []

def VRs (E : Env) (xs : List V) (vs : Array Value) : Prop := vs.size = xs.length ∧ ∀ (j : Nat) x v, xs[j]? = some x → vs[j]? = some v → VR E x v

def entry (v : Value) : PanicEntry := { v, recovered := false }

def RR (E : Env) : Res → Ending → Prop
  | .ret x, .returned v => VR E x v
  | .pan x, .panicked l => ∃ v, VR E x v ∧ l = [entry v]
  | _, _ => False

def callable (P : Program) (f : FuncId) : Bool := (P.funcs[f]?).any fun fn => fn.body.isSome && fn.name != "runtime.NumGoroutine"

/-- Every package variable that is told reads as told. -/
def GR (x : X) (E : Env) : Prop := ∀ g, VR E (.fp (x.G g) 0) (.pointer (some ⟨g, 0, none⟩))
theorem GR.mono {x : X} {E E' : Env} (h : GR x E) (hE : Le E E') : GR x E' := fun g => (h g).mono hE

def ACalls (x : X) (f : FuncId) (args : List V) (h : Hp) (R : Res → Hp → Prop) : Prop :=
  callable x.P f = true ∧ ∀ (w0 : World) (E : Env) (w : World) (vs : Array Value), SR w0 E h w → GR x E → VRs E args vs →
    Calls x.P f vs w fun e w' => ∃ E' h' r, Le E E' ∧ SR w0 E' h' w' ∧ RR E' r e ∧ R r h'

theorem ACalls.mono {x : X} {f : FuncId} {args : List V} {h : Hp} {R R' : Res → Hp → Prop} (H : ACalls x f args h R) (hr : ∀ r h', R r h' → R' r h') : ACalls x f args h R' :=
  ⟨H.1, fun w0 E w vs hs hg hv => (H.2 w0 E w vs hs hg hv).mono fun _ _ ⟨E', h', r, h1, h2, h3, h4⟩ => ⟨E', h', r, h1, h2, h3, hr r h' h4⟩⟩

/-- A deferred call; 'p': what its caller panics with; behind it: whether that was recovered. -/
def mode : Option Value → FrameMode
  | none => .returning
  | some v => .panicking [entry v]

def wanted (t : Nat → V) : Option (Nat × Bool) → Bool
  | none => true
  | some (d, b) => match t d with
    | .bool c => c == b
    | _ => false

/-- One operation, and what is to be shown behind it. -/
def vop (x : X) (o : A) (Q : Ex → St → Prop) (K : St → Prop) (s : St) : Prop :=
  if wanted s.t o.g = true then
    match aop x s.t s.h o.i with
    | some (.val v h) => K { s with t := put s.t o.dst v, h }
    | some (.skip h) => K { s with t := put s.t o.dst udf, h }
    | some (.call f args) => ACalls x f args s.h fun r h => match r with
      | .ret v => K { s with t := put s.t o.dst v, h }
      | .pan v => Q (.pan v) { s with h }
    | some (.dfr f args) => K { s with t := put s.t o.dst udf, d := (f, args) :: s.d }
    | some (.pan v) => Q (.pan v) s
    | none => False
  else K { s with t := put s.t o.dst udf }

def vops (x : X) (Q : Ex → St → Prop) : List A → St → Prop
  | [], s => Q .normal s
  | o :: r, s => vop x o Q (vops x Q r) s

/-- One operation of a region that draws its order: what is to be shown behind a panic hangs on no temporary. -/
def vopD (x : X) (o : A) (Q : Ex → St → Prop) (K : St → Prop) (s : St) : Prop :=
  vop x o (fun e s => ∀ t, Q e { s with t }) K s

def vD (x : X) (ops : List A) (Q : Ex → St → Prop) : D → St → Prop
  | .done, s => Q .normal s
  | .free i r, s => match ops[i]? with
    | some b => vopD x b Q (vD x ops Q r) s
    | none => False
  | .cho i r o, s => (match ops[i]? with
    | some b => vopD x b Q (vD x ops Q r) s
    | none => False) ∧ vD x ops Q o s
  | .nope, _ => True

def vc (x : X) : C → (Ex → St → Prop) → St → Prop
  | .skip, Q, s => Q .normal s
  | .reg ops, Q, s => vops x Q ops s
  | .dreg ops d, Q, s => vD x ops Q d s
  | .seq a b, Q, s => vc x a (fun e s => match e with | .normal => vc x b Q s | e => Q e s) s
  | .cond c a b, Q, s => match c.ev x s.t with
    | .bool true => vc x a Q s
    | .bool false => vc x b Q s
    | _ => False
  | .block id c, Q, s => vc x c (fun e s => match e with | .exit i => if i = id then Q .normal s else Q (.exit i) s | e => Q e s) s
  | .loop c, Q, s => ∃ (I : Nat → St → Prop), (∃ n, I n s) ∧ ∀ n s, I n s → vc x c (fun e s => match e with | .normal => ∃ m, m < n ∧ I m s | e => Q e s) s
  | .exit id, Q, s => Q (.exit id) s
  | .ret, Q, s => Q .ret s
  | .no, _, _ => False

end Go.Vs
