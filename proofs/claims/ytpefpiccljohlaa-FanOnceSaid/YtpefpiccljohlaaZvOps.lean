/- Instructions over plain data, and what each of them comes to. -/
import Derived.Test.YtpefpiccljohlaaZvCore
namespace Go.Vs
set_option linter.unusedSimpArgs false
set_option linter.unusedVariables false

inductive O where
  | t (n : Nat)
  | k (v : V)
  | g (n : Nat)
  deriving Inhabited

/-- What a comparison's operands are. -/
inductive Q1 where
  | num | str | bool
  deriving DecidableEq, Inhabited

inductive Q where
  | num | str | bool | ptr | slc | map | fn | ifc
  | agg (ks : List Q1)
  deriving DecidableEq, Inhabited

inductive I where
  | mov (x : O)
  | pick (c a b : O)
  | new (z : List V) (ty : Option TypeId)
  | box (ty : Option TypeId) (x : O)
  | build (z : List V) (ps : List (Nat × Nat × O))
  | mks (fz : Bool) (es bt : Nat) (ag : Bool) (z : List V) (len : Nat) (ps : List (Nat × O))
  | load (n : Nat) (ag : Bool) (a : O)
  | store (n : Nat) (a x : O)
  | nilck (x : O)
  | bin (op : BinOp) (q : Q) (x y : O)
  | un (op : UnOp) (x : O)
  | cvi (k : IntKind) (x : O)
  | cvs (x : O)
  | s2b (fz : Bool) (x : O)
  | b2s (x : O)
  | arrp (n es : Nat) (x : O)
  | mki (t : TypeId) (x : O)
  | mkf (f : Fn) (first cap : List O)
  | mkm
  | mksl (es bt : Nat) (ag : Bool) (z : List V) (len cap : O)
  | slc (st : Bool) (es : Nat) (x : O) (lo hi mx : Option O)
  | slca (n es : Nat) (ag : Bool) (x : O) (lo hi mx : Option O)
  | fad (off : Nat) (x : O)
  | fld (off n : Nat) (ag : Bool) (x : O)
  | iad (es : Nat) (x i : O)
  | iada (len es : Nat) (x i : O)
  | idxs (x i : O)
  | idxa (len es : Nat) (ag : Bool) (x i : O)
  | look (q : Q) (zero : V) (x i : O) (ok : Bool)
  | upd (q : Q) (m k v : O)
  | asrt (t : TypeId) (zero : V) (x : O) (ok : Bool)
  | ext (x : O) (i : Nat)
  | len (q : Q) (x : O)
  | lenc (n : Nat)
  | app (es bt : Nat) (ag : Bool) (ty : Option TypeId) (s x : O)
  | cpy (es : Nat) (d s : O)
  | clr (z : List V) (x : O)
  | max (x y : O)
  | min (x y : O)
  | call (f : O) (args : List O)
  | inv (r : O) (m : String) (args : List O)
  | dfr (f : O) (args : List O)
  | pan (x : O)
  | recov
  | pne (x y : O)
  | toU (x : O)
  | frU (ty : TypeId) (n : Nat) (x : O)
  | noEsc (x : O)
  | sld (x : O)
  | ustr (ty : TypeId) (p n : O)
  deriving Inhabited

structure A where
  dst : Option Nat
  i : I
  g : Option (Nat × Bool) := none
  deriving Inhabited

/-- How a region that draws its order is gone through: 'free': this operation may be taken first; 'cho': each of these may come next. -/
inductive D where
  | done
  | free (i : Nat) (r : D)
  | cho (i : Nat) (r o : D)
  | nope
  deriving Inhabited

inductive C where
  | skip
  | reg (ops : List A)
  | dreg (ops : List A) (d : D)
  | seq (a b : C)
  | cond (c : O) (a b : C)
  | block (id : Nat) (c : C)
  | loop (c : C)
  | exit (id : Nat)
  | ret
  | no
  deriving Inhabited

/-- A program, what its package variables hold, and its methods. -/
structure X where
  P : Program
  G : Nat → List V
  M : TypeId → String → Option (FuncId × Option Nat)

inductive Rz where
  | val (v : V) (h : Hp)
  | skip (h : Hp)
  | call (f : FuncId) (args : List V)
  | dfr (f : FuncId) (args : List V)
  | pan (v : V)

def O.isTmp : O → Bool
  | .t _ => true
  | _ => false

def O.ev (x : X) (t : Nat → V) : O → V
  | .t n => t n
  | .k v => v
  | .g n => .fp (x.G n) 0

def hget (h : Hp) (b : Nat) : Option Blk := (h[b]?).join

def sub (cs : List V) (o n : Nat) : Option (List V) := if o + n ≤ cs.length then some ((cs.drop o).take n) else none

def rd (h : Hp) : V → Nat → Option (List V)
  | .ptr b o, n => match hget h b with
    | some (.cells cs _) => sub cs o n
    | _ => none
  | .fp cs o, n => sub cs o n
  | _, _ => none

def setAll (cs : List V) (o : Nat) : List V → List V
  | [] => cs
  | x :: r => setAll (cs.set o x) (o + 1) r

def wr (h : Hp) (b o : Nat) (xs : List V) : Option Hp := match hget h b with
  | some (.cells cs ty) => if o + xs.length ≤ cs.length then some (h.set b (some (.cells (setAll cs o xs) ty))) else none
  | _ => none

def asV (ag : Bool) (l : List V) : Option V := if ag then some (.agg l) else match l with
  | [x] => some x
  | _ => none

/-- A slice's or a string's elements, cell by cell. -/
def src (h : Hp) (es : Nat) : V → Option (Nat × List V)
  | .nsl => some (0, [])
  | .sl b off len _ _ es' _ => if es' = es then (rd h (.ptr b off) (len * es)).map (len, ·) else none
  | .lst _ xs => if ∀ x ∈ xs, x.cells.length = es then some (xs.length, flat xs) else none
  | .str s => if es = 1 then some (s.length, s.map fun c => .int .u8 c.toNat) else none
  | _ => none

def fillV (cs : List V) : List (Nat × Nat × V) → Option (List V)
  | [] => some cs
  | (o, n, v) :: r => if v.cells.length = n ∧ o + n ≤ cs.length ∧ (∀ x ∈ v.cells, x.one = true) then fillV (setAll cs o v.cells) r else none

def chunk (es : Nat) (ag : Bool) : Nat → List V → List V
  | 0, _ => []
  | n + 1, l => (if ag then V.agg (l.take es) else (l.headD .nptr)) :: chunk es ag n (l.drop es)

def room : Nat := 2 ^ 46

def newSl (h : Hp) (n es : Nat) (ag : Bool) (cs : List V) (ty : Option TypeId := none) : Rz := .val (.sl h.length 0 n n false es ag) (h ++ [some (.cells cs ty)])

def bty (h : Hp) (b : Nat) : Option TypeId := match hget h b with
  | some (.cells _ ty) => ty
  | _ => none

/-- What is known of the row's type behind an append. -/
def appTy (h : Hp) (ex : Bool) (b off : Nat) (ty : Option TypeId) : Option TypeId := if ex then ty else if off = 0 ∧ bty h b = ty then ty else none

def appV (h : Hp) (es bt : Nat) (ag : Bool) (ty : Option TypeId) (s : V) (n : Nat) (ys : List V) : Option Rz :=
  match s with
  | .nsl => if n = 0 then some (.val .nsl h) else if n * bt ≤ room then some (newSl h n es ag ys ty) else none
  | .lst ex xs =>
    if n = 0 then some (.val s h)
    else if ex = true ∧ (∀ x ∈ xs, x.cells.length = es) ∧ (xs.length + n) * bt ≤ room then some (newSl h (xs.length + n) es ag (flat xs ++ ys) ty) else none
  | .sl b off len cap ex es' ag' =>
    if es' ≠ es ∨ ag' ≠ ag then none
    else if len + n ≤ cap then (wr h b (off + len * es) ys).map (.val (.sl b off (len + n) cap ex es ag))
    else if (len + n) * bt ≤ room then
      match rd h (.ptr b off) (len * es) with
      | some old => some (newSl (if ex then h else h.set b none) (len + n) es ag (old ++ ys) (appTy h ex b off ty))
      | none => none
    else none
  | _ => none

def intBin (op : BinOp) (k : IntKind) (a b : Int) : Option V :=
  match op with
  | .add => some (.int k (k.wrap (a + b)))
  | .sub => some (.int k (k.wrap (a - b)))
  | .mul => some (.int k (k.wrap (a * b)))
  | .quo => if b = 0 then none else some (.int k (k.wrap (a.tdiv b)))
  | .rem => if b = 0 then none else some (.int k (a.tmod b))
  | .and => some (.int k (k.wrap (BitVec.ofInt k.bits a &&& BitVec.ofInt k.bits b).toNat))
  | .or => some (.int k (k.wrap (BitVec.ofInt k.bits a ||| BitVec.ofInt k.bits b).toNat))
  | .xor => some (.int k (k.wrap (BitVec.ofInt k.bits a ^^^ BitVec.ofInt k.bits b).toNat))
  | .andNot => some (.int k (k.wrap (BitVec.ofInt k.bits a &&& ~~~BitVec.ofInt k.bits b).toNat))
  | .eql => some (.bool (a == b))
  | .neq => some (.bool (a != b))
  | .lss => some (.bool (a < b))
  | .leq => some (.bool (a ≤ b))
  | .gtr => some (.bool (a > b))
  | .geq => some (.bool (a ≥ b))
  | _ => none

def strBin (op : BinOp) (a b : List UInt8) : Option V :=
  match op with
  | .add => if a.length + b.length ≤ room then some (.str (a ++ b)) else none
  | .eql => some (.bool (a == b))
  | .neq => some (.bool (!(a == b)))
  | .lss => some (.bool (Op.bytesLess a b))
  | .leq => some (.bool (Op.bytesLess a b || a == b))
  | .gtr => some (.bool (!(Op.bytesLess a b || a == b)))
  | .geq => some (.bool (!(Op.bytesLess a b)))
  | _ => none

/-- Go's '==' where it is told. -/
def veq1 : Q1 → V → V → Option Bool
  | .num, .int j a, .int k b => if j = k then some (a == b) else none
  | .bool, .bool a, .bool b => some (a == b)
  | .str, .str a, .str b => some (a == b)
  | _, _, _ => none

def veqs : List Q1 → List V → List V → Option Bool
  | [], [], [] => some true
  | k :: ks, a :: r, b :: s => match veq1 k a b, veqs ks r s with
    | some x, some y => some (x && y)
    | _, _ => none
  | _, _, _ => none

def veq (q : Q) (x y : V) : Option Bool :=
  match q, x, y with
  | .num, .int j a, .int k b => if j = k then some (a == b) else none
  | .bool, .bool a, .bool b => some (a == b)
  | .str, .str a, .str b => some (a == b)
  | .ptr, .nptr, .nptr => some true
  | .ptr, .nptr, .ptr _ _ => some false
  | .ptr, .ptr _ _, .nptr => some false
  | .slc, .nsl, .nsl => some true
  | .slc, .nsl, .sl .. => some false
  | .slc, .sl .., .nsl => some false
  | .slc, .nsl, .lst .. => some false
  | .slc, .lst .., .nsl => some false
  | .map, .nmap, .nmap => some true
  | .map, .nmap, .map _ => some false
  | .map, .map _, .nmap => some false
  | .fn, .nfn, .nfn => some true
  | .fn, .nfn, .fn .. => some false
  | .fn, .fn .., .nfn => some false
  | .ifc, .nifc, .nifc => some true
  | .ifc, .nifc, .ifc _ _ => some false
  | .ifc, .ifc _ _, .nifc => some false
  | .agg ks, .agg a, .agg b => veqs ks a b
  | _, _, _ => none

def binV (op : BinOp) (q : Q) (x y : V) : Option V :=
  match q with
  | .num => match x, y with
    | .int k a, .int k' b =>
      match op with
      | .shl => if 0 ≤ b then some (.int k (k.wrap (a * 2 ^ (Min.min b.toNat k.bits)))) else none
      | .shr => if 0 ≤ b then some (.int k (a.fdiv (2 ^ (Min.min b.toNat k.bits)))) else none
      | _ => if k = k' then intBin op k a b else none
    | _, _ => none
  | .str => match x, y with
    | .str a, .str b => strBin op a b
    | _, _ => none
  | q => match op with
    | .eql => (veq q x y).map .bool
    | .neq => (veq q x y).map fun b => .bool !b
    | _ => none

def unV (op : UnOp) (x : V) : Option V :=
  match op, x with
  | .not, .bool b => some (.bool !b)
  | .neg, .int k n => some (.int k (k.wrap (0 - n)))
  | .xor, .int k n => some (.int k (k.wrap (BitVec.ofInt k.bits (if k.signed then -1 else k.max) ^^^ BitVec.ofInt k.bits n).toNat))
  | _, _ => none

def bnd (x : X) (t : Nat → V) (d : Nat) : Option O → Option Nat
  | none => some d
  | some o => match o.ev x t with
    | .int _ n => if 0 ≤ n then some n.toNat else none
    | _ => none

def upTo {α : Type} : Option Nat → List α → List α
  | none, xs => xs
  | some n, xs => xs.take n

def slcV (es : Nat) (v : V) (l : Nat) (h m : Option Nat) : Option V :=
  match v, m with
  | .str s, none => if l ≤ h.getD s.length ∧ h.getD s.length ≤ s.length then some (.str ((upTo h s).drop l)) else none
  | .nsl, _ => if l = 0 ∧ h.getD 0 = 0 ∧ m.getD 0 = 0 then some .nsl else none
  | .lst ex xs, none =>
    if l ≤ h.getD xs.length ∧ h.getD xs.length ≤ xs.length ∧ (∀ x ∈ xs, x.cells.length = es) then some (.lst (ex && h.getD xs.length == xs.length) ((upTo h xs).drop l)) else none
  | .lst _ xs, some m =>
    if l ≤ h.getD xs.length ∧ h.getD xs.length ≤ m ∧ m ≤ xs.length ∧ (∀ x ∈ xs, x.cells.length = es) then some (.lst (h.getD xs.length == m) ((upTo h xs).drop l)) else none
  | .sl b off len cap ex es' ag, none =>
    if es' = es ∧ l ≤ h.getD len ∧ h.getD len ≤ cap then some (.sl b (off + l * es) (h.getD len - l) (cap - l) ex es ag) else none
  | .sl b off len cap _ es' ag, some m =>
    if es' = es ∧ l ≤ h.getD len ∧ h.getD len ≤ m ∧ m ≤ cap then some (.sl b (off + l * es) (h.getD len - l) (m - l) true es ag) else none
  | _, _ => none

def findM (q : Q) (k : V) : List (V × V) → Option (Option V)
  | [] => some none
  | (a, v) :: r => match veq q k a with
    | some true => some (some v)
    | some false => findM q k r
    | none => none

def putM (q : Q) (k v : V) : List (V × V) → Option (List (V × V))
  | [] => some [(k, v)]
  | (a, u) :: r => match veq q k a with
    | some true => some ((k, v) :: r)
    | some false => (putM q k v r).map ((a, u) :: ·)
    | none => none

def V.isStr : V → Bool
  | .str _ => true
  | _ => false

def V.isByte : V → Bool
  | .int .u8 _ => true
  | _ => false

def evs (x : X) (t : Nat → V) (l : List O) : List V := l.map (O.ev x t)

def callV (f : V) (args : List V) : Option (FuncId × List V) :=
  match f with
  | .fn (.func f) first cap => some (f, first ++ args ++ cap)
  | _ => none

def lenV (h : Hp) (q : Q) (v : V) : Option V := match v with
  | .str s => if q = .str then some (.int .i64 s.length) else none
  | .nsl => if q = .slc then some (.int .i64 0) else none
  | .sl _ _ len _ _ _ _ => if q = .slc then some (.int .i64 len) else none
  | .lst _ xs => if q = .slc then some (.int .i64 xs.length) else none
  | .nmap => if q = .map then some (.int .i64 0) else none
  | .map b => if q = .map then (match hget h b with
    | some (.map es) => some (.int .i64 es.length)
    | _ => none) else none
  | _ => none

def aop (x : X) (t : Nat → V) (h : Hp) : I → Option Rz
  | .mov a => some (.val (a.ev x t) h)
  | .pick c a b => match c.ev x t with
    | .bool c => some (.val (if c then a.ev x t else b.ev x t) h)
    | _ => none
  | .new z ty => some (.val (.ptr h.length 0) (h ++ [some (.cells z ty)]))
  | .box ty a => if ∀ c ∈ (a.ev x t).cells, c.one = true then some (.val (.ptr h.length 0) (h ++ [some (.cells (a.ev x t).cells ty)])) else none
  | .build z ps => (fillV z (ps.map fun (o, n, a) => (o, n, a.ev x t))).map fun cs => .val (.agg cs) h
  | .mks fz es bt ag z len ps =>
    match fillV z (ps.map fun (i, a) => (i * es, es, a.ev x t)) with
    | some cs => if fz then some (.val (.lst true (chunk es ag len cs)) h) else some (.val (.sl h.length 0 len len true es ag) (h ++ [some (.cells cs)]))
    | none => none
  | .load n ag a => ((rd h (a.ev x t) n).bind (asV ag)).map fun v => .val v h
  | .store n a v => match a.ev x t with
    | .ptr b o => if (v.ev x t).cells.length = n ∧ (∀ c ∈ (v.ev x t).cells, c.one = true) then (wr h b o (v.ev x t).cells).map .skip else none
    | _ => none
  | .nilck a => match a.ev x t with
    | .ptr b o => some (.val (.ptr b o) h)
    | .fp cs o => some (.val (.fp cs o) h)
    | .fn (.func f) a b => some (.val (.fn (.func f) a b) h)
    | _ => none
  | .bin op q a b => (if q = .ifc ∧ a.isTmp = true ∧ b.isTmp = true then none else binV op q (a.ev x t) (b.ev x t)).map fun v => .val v h
  | .un op a => (unV op (a.ev x t)).map fun v => .val v h
  | .cvi k a => match a.ev x t with
    | .int _ n => some (.val (.int k (k.wrap n)) h)
    | _ => none
  | .cvs a => match a.ev x t with
    | .str s => some (.val (.str s) h)
    | _ => none
  | .s2b fz a => match a.ev x t with
    | .str s => if fz then some (.val (.lst false (s.map fun c => .int .u8 c.toNat)) h) else some (newSl h s.length 1 false (s.map fun c => .int .u8 c.toNat))
    | _ => none
  | .b2s a => if (a.ev x t).isStr = true then none else match src h 1 (a.ev x t) with
    | some (_, cs) => if ∀ c ∈ cs, c.isByte = true then some (.val (.str (cs.map fun | .int _ n => UInt8.ofNat n.toNat | _ => 0)) h) else none
    | none => none
  | .arrp n es a => match a.ev x t with
    | .sl b off len _ _ es' _ => if n ≤ len ∧ es' = es ∧ 0 < n then some (.val (.ptr b off) h) else none
    | .lst _ xs => if n ≤ xs.length ∧ 0 < n then some (.val (.fp (flat xs) 0) h) else none
    | _ => none
  | .mki ty a => some (.val (.ifc ty (a.ev x t)) h)
  | .mkf f first cap => some (.val (.fn f (evs x t first) (evs x t cap)) h)
  | .mkm => some (.val (.map h.length) (h ++ [some (.map [])]))
  | .mksl es bt ag z l c => match l.ev x t, c.ev x t with
    | .int .i64 l, .int .i64 c => if 0 ≤ l ∧ l ≤ c ∧ c * bt ≤ room ∧ c ≤ room then some (.val (.sl h.length 0 l.toNat c.toNat true es ag) (h ++ [some (.cells (List.replicate c.toNat z).flatten)])) else none
    | _, _ => none
  | .slc st es a lo hi mx =>
    if (a.ev x t).isStr ≠ st then none else
    match bnd x t 0 lo, hi.map (fun o => bnd x t 0 (some o)), mx.map (fun o => bnd x t 0 (some o)) with
    | some l, none, none => (slcV es (a.ev x t) l none none).map fun v => .val v h
    | some l, some (some u), none => (slcV es (a.ev x t) l (some u) none).map fun v => .val v h
    | some l, some (some u), some (some m) => (slcV es (a.ev x t) l (some u) (some m)).map fun v => .val v h
    | _, _, _ => none
  | .slca n es ag a lo hi mx =>
    match bnd x t 0 lo, bnd x t n hi, bnd x t n mx with
    | some l, some u, some m =>
      if l ≤ u ∧ u ≤ m ∧ m ≤ n then match a.ev x t with
        | .ptr b o => if (rd h (.ptr b o) (n * es)).isSome then some (.val (.sl b (o + l * es) (u - l) (m - l) true es ag) h) else none
        | .fp cs o => (sub cs o (n * es)).map fun c => .val (.lst (u == m) (((chunk es ag n c).take u).drop l)) h
        | _ => none
      else none
    | _, _, _ => none
  | .fad off a => match a.ev x t with
    | .ptr b o => some (.val (.ptr b (o + off)) h)
    | .fp cs o => some (.val (.fp cs (o + off)) h)
    | _ => none
  | .fld off n ag a => match a.ev x t with
    | .agg cs => ((sub cs off n).bind (asV ag)).map fun v => .val v h
    | _ => none
  | .iad es a i => match a.ev x t, i.ev x t with
    | .sl b off len _ _ es' _, .int _ i => if es' = es ∧ 0 ≤ i ∧ i < len then some (.val (.ptr b (off + i.toNat * es)) h) else none
    | .lst _ xs, .int _ i => if 0 ≤ i ∧ i < xs.length ∧ (xs.getD i.toNat .nptr).cells.length = es then some (.val (.fp (xs.getD i.toNat .nptr).cells 0) h) else none
    | _, _ => none
  | .iada len es a i => match a.ev x t, i.ev x t with
    | .ptr b o, .int _ i => if 0 ≤ i ∧ i < len then some (.val (.ptr b (o + i.toNat * es)) h) else none
    | .fp cs o, .int _ i => if 0 ≤ i ∧ i < len then some (.val (.fp cs (o + i.toNat * es)) h) else none
    | _, _ => none
  | .idxs a i => match a.ev x t, i.ev x t with
    | .str s, .int _ i => if 0 ≤ i ∧ i < s.length then some (.val (.int .u8 (s.getD i.toNat 0).toNat) h) else none
    | _, _ => none
  | .idxa len es ag a i => match a.ev x t, i.ev x t with
    | .agg cs, .int _ i => if 0 ≤ i ∧ i < len then ((sub cs (i.toNat * es) es).bind (asV ag)).map fun v => .val v h else none
    | _, _ => none
  | .look q zero a i ok => match a.ev x t with
    | .nmap => some (.val (if ok then .tup [zero, .bool false] else zero) h)
    | .map b => match hget h b with
      | some (.map es) => (findM q (i.ev x t) es).map fun r => .val (if ok then .tup [r.getD zero, .bool r.isSome] else r.getD zero) h
      | _ => none
    | _ => none
  | .upd q m k v => match m.ev x t with
    | .map b => match hget h b with
      | some (.map es) => (putM q (k.ev x t) (v.ev x t) es).map fun es => .skip (h.set b (some (.map es)))
      | _ => none
    | _ => none
  | .asrt ty zero a ok => match a.ev x t with
    | .ifc u v => if u = ty then some (.val (if ok then .tup [v, .bool true] else v) h) else if ok then some (.val (.tup [zero, .bool false]) h) else none
    | .nifc => if ok then some (.val (.tup [zero, .bool false]) h) else none
    | _ => none
  | .ext a i => match a.ev x t with
    | .tup vs => (vs[i]?).map fun v => .val v h
    | _ => none
  | .len q a => (lenV h q (a.ev x t)).map fun v => .val v h
  | .lenc n => some (.val (.int .i64 n) h)
  | .app es bt ag ty s a => match src h es (a.ev x t) with
    | some (n, ys) => appV h es bt ag ty (s.ev x t) n ys
    | none => none
  | .cpy es d s => match src h es (s.ev x t) with
    | some (n, ys) => match d.ev x t with
      | .nsl => some (.val (.int .i64 0) h)
      | .sl b off len _ _ es' _ => if es' = es then (wr h b off (ys.take (Min.min n len * es))).map (.val (.int .i64 (Min.min n len : Nat))) else none
      | _ => none
    | none => none
  | .clr z a => match a.ev x t with
    | .nsl => some (.val (.tup []) h)
    | .sl b off len _ _ es _ => if z.length = es then (if len = 0 then some (.val (.tup []) h) else (wr h b off (List.replicate len z).flatten).map (.val (.tup []))) else none
    | _ => none
  | .max a b => match a.ev x t, b.ev x t with
    | .int k a, .int k' b => if k = k' then some (.val (.int k (if b > a then b else a)) h) else none
    | _, _ => none
  | .min a b => match a.ev x t, b.ev x t with
    | .int k a, .int k' b => if k = k' then some (.val (.int k (if b < a then b else a)) h) else none
    | _, _ => none
  | .call f args => (callV (f.ev x t) (evs x t args)).map fun (f, l) => .call f l
  | .inv r m args => match r.ev x t with
    | .ifc ty v => match x.M ty m with
      | some (f, none) => some (.call f (v :: evs x t args))
      | some (f, some off) => match v with
        | .agg cs => (cs[off]?).map fun c => .call f (c :: evs x t args)
        | _ => none
      | none => none
    | _ => none
  | .dfr f args => (callV (f.ev x t) (evs x t args)).map fun (f, l) => .dfr f l
  | .pan a => match a.ev x t with
    | .ifc ty v => some (.pan (.ifc ty v))
    | _ => none
  | .recov => none
  | .pne a b => match a.ev x t, b.ev x t with
    | .ptr b o, .ptr b' o' => if b = b' ∧ o = o' ∧ (hget h b).isSome = true then some (.val (.bool false) h) else none
    | _, _ => none
  | .toU a => match a.ev x t with
    | .nptr => some (.val .nptr h)
    | .ptr b o => match rd h (.ptr b o) 1 with
      | some _ => some (.val (.ptr b o) h)
      | none => none
    | _ => none
  | .frU ty n a => match a.ev x t with
    | .nptr => some (.val .nptr h)
    | .ptr b o => match hget h b with
      | some (.cells cs (some ty')) => if ty' = ty ∧ o = 0 ∧ n ≤ cs.length then some (.val (.ptr b o) h) else none
      | _ => none
    | _ => none
  | .noEsc a => some (.val (a.ev x t) h)
  | .sld a => match a.ev x t with
    | .nsl => some (.val .nptr h)
    | .sl b off _ cap _ _ _ => if 0 < cap then some (.val (.ptr b off) h) else none
    | _ => none
  | .ustr ty p n => match p.ev x t, n.ev x t with
    | .nptr, .int .i64 n => if n = 0 then some (.val (.str []) h) else none
    | .ptr b o, .int .i64 n => if n = 0 then some (.val (.str []) h) else
      match hget h b with
      | some (.cells cs (some ty')) => if ty' = ty ∧ o = 0 ∧ 0 ≤ n ∧ n ≤ 9223372036854775807 then (match sub cs 0 n.toNat with
        | some l => if ∀ c ∈ l, c.isByte = true then some (.val (.str (l.map fun | .int _ n => UInt8.ofNat n.toNat | _ => 0)) (h.set b none)) else none
        | none => none) else none
      | _ => none
    | _, _ => none

end Go.Vs
