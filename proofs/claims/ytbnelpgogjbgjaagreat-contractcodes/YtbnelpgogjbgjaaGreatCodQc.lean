/- The short code and what it asks: operations with sizes and places resolved; their abstract meaning; contracts. -/
import Derived.Test.YtbnelpgogjbgjaaGreatCodQb
/- The short code and what it asks: operations with sizes and places resolved; their abstract meaning; contracts. -/
set_option linter.unusedVariables false
namespace Go.Proofs.YtbnelpgogjbgjaaGreat.Q
open Go.RowKit

/-- Of which kind are the things that are held against each other. -/
inductive BK where
  | bool | slice | ptr | other
  deriving DecidableEq

inductive AOp where
  | mv (x : Operand)
  | pick (c a b : Operand)
  | alloc (z : List Value)
  | box (x : Operand)
  | build (z : List Value) (parts : List (Nat × Nat × Operand))
  | slit (e : TypeId) (m : Nat) (xs : List Operand)
  | load (ag : Bool) (n : Nat) (x : Operand)
  | store (n : Nat) (x v : Operand)
  | nilc (x : Operand)
  | bin (op : BinOp) (bk : BK) (x y : Operand)
  | eqs (neg : Bool) (ks : List Nat) (x y : Operand)
  | un (op : UnOp) (x : Operand)
  | cvi (k : IntKind) (x : Operand)
  | cvs (x : Operand)
  | b2s (x : Operand)
  | s2b (e : TypeId) (x : Operand)
  | i2f (k : FloatKind) (x : Operand)
  | mki (t : TypeId) (x : Operand)
  | mkf (f : Nat) (first caps : List Operand)
  | cut (e : TypeId) (m : Nat) (x : Operand) (lo hi mx : Option Operand)
  | cutS (x : Operand) (lo hi : Option Operand)
  | fad (off : Nat) (x : Operand)
  | iad (m : Nat) (x i : Operand)
  | iadA (len m : Nat) (x i : Operand)
  | fld (ag : Bool) (off n : Nat) (x : Operand)
  | idx (x i : Operand)
  | ext (x : Operand) (i : Nat)
  | call (f : Operand) (args : List Operand)
  | len (str : Bool) (x : Operand)
  | app (m bytes : Nat) (z : List Value) (e : TypeId) (s x : Operand)
  | mm (isMax : Bool) (args : List Operand)
  | panic (x : Operand)

structure AO where
  dst : Option Nat
  guard : Option (Nat × Bool)
  op : AOp

inductive ACode where
  | skip
  | reg (ops : List AO)
  | dreg (k : Nat) (ops : List AO)
  | mreg (hd : List (Option (List AO) × AO)) (tl : List AO)
  | seq (a b : ACode)
  | cond (c : Operand) (a b : ACode)
  | block (id : Nat) (c : ACode)
  | loop (c : ACode)
  | exit (id : Nat)
  | ret

/-! ### From the model's code -/
def isAggD : TypeDesc → Bool
  | .struct _ | .array _ _ => true
  | _ => false
def sizeP (P : Program) (t : TypeId) : Option (Bool × Nat) := (P.underlying t).bind fun d => (P.info? t).map fun i => (isAggD d, i.size)
def bkOf : TypeDesc → BK
  | .bool => .bool
  | .slice _ => .slice
  | .pointer _ => .ptr
  | _ => .other

def compBuiltin (P : Program) (b : Builtin) (args : List Operand) (ts : List TypeId) : Option AOp :=
  match b, args, ts with
  | .len, [x], [t] => match P.underlying t with
    | some .string => some (.len true x)
    | some (.slice _) => some (.len false x)
    | _ => none
  | .append, [s, x], [t, t'] => match P.underlying t, P.underlying t' with
    | some (.slice e), some d => match (P.info? e), d with
      | some i, .slice _ => match i.zero with
        | some z => if t = t' ∧ 0 < i.size ∧ 0 < i.bytes ∧ z.cells.size = i.size then some (.app i.size i.bytes z.cells.toList e s x) else none
        | none => none
      | _, _ => none
    | _, _ => none
  | .max, xs, _ => some (.mm true xs)
  | .min, xs, _ => some (.mm false xs)
  | _, _, _ => none

def isU8 (P : Program) (e : TypeId) : Bool := match P.underlying e with
  | some (.int .u8) => true
  | _ => false

def compParts (P : Program) (fs : Array Field) : List (Nat × Operand) → Option (List (Nat × Nat × Operand))
  | [] => some []
  | (j, x) :: rest => match fs[j]? with
    | some f => match P.info? f.type, compParts P fs rest with
      | some i, some r => some ((f.offset, i.size, x) :: r)
      | _, _ => none
    | none => none

/-- Of which kinds the fields of a struct of cells are. -/
def eqKinds (P : Program) : Nat → List Field → Option (List Nat)
  | _, [] => some []
  | i, f :: fs => if f.name ≠ "_" ∧ f.offset = i then
      match P.underlying f.type, eqKinds P (i + 1) fs with
      | some (.int _), some r => some (0 :: r)
      | some .bool, some r => some (1 :: r)
      | some .string, some r => some (2 :: r)
      | some (.float _), some r => some (3 :: r)
      | _, _ => none
    else none

def compOp (P : Program) (op : Op) : Option AOp :=
  match op with
  | .move x | .assign x => some (.mv x)
  | .pick c a b => some (.pick c a b)
  | .alloc e => match P.info? e with
    | some i => match i.zero with
      | some z => if z.cells.toList.all (·.oneCell') then some (.alloc z.cells.toList) else none
      | none => none
    | none => none
  | .box _ x => some (.box x)
  | .build t parts => match P.underlying t, P.info? t with
    | some (.struct fs), some i => match i.zero with
      | some z => if fs.all (fun f => (P.info? f.type).isSome) ∧ z.cells.toList.all (·.oneCell') then (compParts P fs parts.toList).map (.build z.cells.toList) else none
      | none => none
    | _, _ => none
  | .buildSlice t len parts => match P.underlying t with
    | some (.slice e) => match P.info? e with
      | some i => if i.zero.isSome ∧ 0 < i.size ∧ (i.zero.map (·.cells.size)) = some i.size ∧ len * i.size ≤ 2 ^ 24 ∧ parts.toList.map (·.1) = List.range len then some (.slit e i.size (parts.toList.map (·.2))) else none
      | none => none
    | _ => none
  | .load t a => (sizeP P t).map fun p => .load p.1 p.2 a
  | .store t a v => (P.info? t).map fun i => .store i.size a v
  | .nilCheck x => some (.nilc x)
  | .binOp op t x y _ => match P.underlying t with
    | some d => if isAggD d then (match d with
        | .struct fs => match eqKinds P 0 fs.toList with
          | some ks => if P.stoodInHeld t = false ∧ P.eqGuardType P.depth t = false then (match op with | .eql => some (.eqs false ks x y) | .neq => some (.eqs true ks x y) | _ => none) else none
          | none => none
        | _ => none) else some (.bin op (bkOf d) x y)
    | none => none
  | .unOp op _ x => some (.un op x)
  | .convert src dst x => match P.underlying src, P.underlying dst with
    | some (.int _), some (.int k) => some (.cvi k x)
    | some (.int _), some (.float k) => some (.i2f k x)
    | some .string, some .string => some (.cvs x)
    | some (.slice e), some .string => if isU8 P e then some (.b2s x) else none
    | some .string, some (.slice e) => if isU8 P e then some (.s2b e x) else none
    | _, _ => none
  | .makeInterface t x => match P.underlying t with
    | some (.interface _) | none => none
    | some _ => some (.mki t x)
  | .makeFunc fn first caps => match fn with
    | .func f => some (.mkf f first.toList caps.toList)
    | _ => none
  | .slice t x lo hi mx => match P.underlying t with
    | some (.slice e) => if mx.isSome && hi.isNone then none else (P.info? e).map fun i => .cut e i.size x lo hi mx
    | some .string => if mx.isNone then some (.cutS x lo hi) else none
    | _ => none
  | .fieldAddr t x j => match P.underlying t with
    | some (.struct fs) => match fs[j]? with
      | some f => match P.info? f.type with
        | some i => if 0 < i.size then some (.fad f.offset x) else none
        | none => none
      | none => none
    | _ => none
  | .indexAddr t x i => match P.underlying t with
    | some (.slice e) => (P.info? e).map fun q => .iad q.size x i
    | some (.array n e) => if n ≤ 1 then none else (P.info? e).map fun q => .iadA n q.size x i
    | _ => none
  | .field t x j => match P.underlying t with
    | some (.struct fs) => match fs[j]? with
      | some f => (sizeP P f.type).map fun p => .fld p.1 f.offset p.2 x
      | none => none
    | _ => none
  | .index t x i => match P.underlying t with
    | some .string => some (.idx x i)
    | _ => none
  | .extract x i => some (.ext x i)
  | .call c => match c.callee with
    | .value f => some (.call f c.args.toList)
    | .builtin b => compBuiltin P b c.args.toList c.argTypes.toList
    | _ => none
  | .panic x => some (.panic x)
  | _ => none

def dstOk (N : Nat) : Option Nat → Bool
  | some d => decide (d < N)
  | none => true

/-- An operation, its slot below N; the guard by the slot of the operation that it hangs on. -/
def compO (P : Program) (N : Nat) (ops : Array Oper) (o : Oper) : Option AO :=
  match compOp P o.op with
  | none => none
  | some op =>
    if dstOk N o.dst then
      match o.guard with
      | none => some ⟨o.dst, none, op⟩
      | some (j, want) => match (ops[j]?).bind (·.dst) with
        | some t => some ⟨o.dst, some (t, want), op⟩
        | none => none
    else none

def compOs (P : Program) (N : Nat) (ops : Array Oper) : List Oper → Option (List AO)
  | [] => some []
  | o :: os => match compO P N ops o, compOs P N ops os with
    | some x, some xs => some (x :: xs)
    | _, _ => none

/-- The slots that an operation looks at. -/
def opd : Operand → List Nat
  | .tmp t => [t]
  | _ => []
def opdO : Option Operand → List Nat
  | some x => opd x
  | none => []
def AOp.slots : AOp → List Nat
  | .mv x | .box x | .load _ _ x | .nilc x | .un _ x | .cvi _ x | .cvs x | .b2s x | .s2b _ x | .i2f _ x | .mki _ x | .fad _ x | .fld _ _ _ x | .ext x _ | .len _ x | .panic x => opd x
  | .pick c a b => opd c ++ opd a ++ opd b
  | .alloc _ => []
  | .build _ ps => ps.flatMap fun p => opd p.2.2
  | .slit _ _ xs | .mm _ xs => xs.flatMap opd
  | .store _ x v => opd x ++ opd v
  | .bin _ _ x y | .eqs _ _ x y | .iad _ x y | .iadA _ _ x y | .idx x y | .app _ _ _ _ x y => opd x ++ opd y
  | .mkf _ a b => a.flatMap opd ++ b.flatMap opd
  | .cut _ _ x lo hi mx => opd x ++ opdO lo ++ opdO hi ++ opdO mx
  | .cutS x lo hi => opd x ++ opdO lo ++ opdO hi
  | .call f args => opd f ++ args.flatMap opd
def AO.slots (o : AO) : List Nat := o.op.slots ++ (match o.guard with | some (t, _) => [t] | none => [])

/-- What stands ahead of each operation, by bits. -/
def cls (l : List (List Nat)) : List Nat := l.foldl (fun acc as => acc ++ [as.foldl (fun m j => m ||| 2 ^ j ||| acc.getD j 0) 0]) []
def clOk (n : Nat) (after : List (List Nat)) (cl : List Nat) : Bool :=
  (List.range n).all fun i => (after.getD i []).all (· < i) && (List.range n).all fun j => !((cl.getD i 0).testBit j) || (after.getD i []).any fun m => m == j || (cl.getD m 0).testBit j
def tailOk (n k : Nat) (cl : List Nat) : Bool := (List.range n).all fun i => i < k || (List.range i).all fun j => (cl.getD i 0).testBit j
def dsts (k : Nat) (xs : List AO) (t : Nat) : List Nat := (List.range k).filter fun i => ((xs[i]?).bind (·.dst)) == some t
def rdOk (k : Nat) (xs : List AO) (cl : List Nat) : Bool :=
  (List.range k).all fun j => (match (xs[j]?).bind (·.dst) with | some t => (dsts k xs t).all (· == j) | none => true) &&
    (match xs[j]? with | some o => o.slots.all fun t => (dsts k xs t).all fun i => i < j && (cl.getD j 0).testBit i | none => true)
def dOk (n k : Nat) (xs : List AO) (after : List (List Nat)) : Bool := k ≤ n && clOk n after (cls after) && tailOk n k (cls after) && rdOk k xs (cls after)
def afterOf (ops : Array Oper) : List (List Nat) := ops.toList.map fun o => (o.after.toList.filter (Region.binds .any)).map (·.on)
/-- Calls that may write: a pointer is handed over. -/
def effOp (P : Program) (o : Oper) : Bool := match o.op with
  | .call c => o.guard.isNone && (match c.callee with | .value (.func _) => true | _ => false) && c.argTypes.toList.any fun t => match P.underlying t with | some (.pointer _) => true | _ => false
  | _ => false
def effAt (P : Program) (ops : Array Oper) (j : Nat) : Bool := match ops[j]? with
  | some o => effOp P o
  | none => false
/-- Does i stand ahead of j? -/
def anc (cl : List Nat) (i j : Nat) : Bool := (cl.getD j 0).testBit i
/-- The head in an order in which what hangs on no call stands ahead of it. -/
def mOrd (k : Nat) (eff : Nat → Bool) (cl : List Nat) : List Nat :=
  (List.range (((List.range k).filter eff).length + 1)).flatMap fun e => ((List.range k).filter fun j => !eff j && (((List.range k).filter eff).filter fun i => anc cl i j).length == e) ++ (((List.range k).filter eff).drop e).take 1
def aoAt (xs : List AO) (j : Nat) : AO := xs.getD j ⟨none, none, .alloc []⟩
def mHead (xs : List AO) (eff : Nat → Bool) (cl : List Nat) : List Nat → List Nat → List (Option (List AO) × AO)
  | [], _ => []
  | j :: js, done => (if eff j then some ((done.filter fun i => !eff i && !anc cl i j).map (aoAt xs)) else none, aoAt xs j) :: mHead xs eff cl js (done ++ [j])
def mTopo (eff : Nat → Bool) (cl : List Nat) : List Nat → Bool
  | [] => true
  | j :: js => js.all (fun i => !anc cl i j && (!eff j || anc cl j i)) && mTopo eff cl js
def mOk (n k : Nat) (xs : List AO) (after : List (List Nat)) (eff : Nat → Bool) : Bool :=
  dOk n k xs after && mTopo eff (cls after) (mOrd k eff (cls after)) && decide (mOrd k eff (cls after)).Nodup && (mOrd k eff (cls after)).all (· < k) && (List.range k).all (fun j => (mOrd k eff (cls after)).contains j && (aoAt xs j).dst.isSome && (!eff j || (aoAt xs j).guard.isNone))

def comp (P : Program) (N : Nat) : Code → Option ACode
  | .skip => some .skip
  | .region _ ops draw => match compOs P N ops ops.toList with
    | some l => if draw then
        match (List.range (ops.size + 1)).find? (fun k => tailOk ops.size k (cls (afterOf ops))) with
        | some k => if (List.range k).any (effAt P ops) then (if mOk ops.size k l (afterOf ops) (effAt P ops) then some (.mreg (mHead l (effAt P ops) (cls (afterOf ops)) (mOrd k (effAt P ops) (cls (afterOf ops))) []) (l.drop k)) else none)
          else if dOk ops.size k l (afterOf ops) then some (.dreg k l) else none
        | none => none
      else some (.reg l)
    | none => none
  | .seq a b => match comp P N a, comp P N b with
    | some x, some y => some (.seq x y)
    | _, _ => none
  | .cond c a b => match comp P N a, comp P N b with
    | some x, some y => some (.cond c x y)
    | _, _ => none
  | .block id c => (comp P N c).map (.block id)
  | .loop c => (comp P N c).map .loop
  | .exit id => some (.exit id)
  | .ret => some .ret
  | _ => none

/-! ### States -/
structure AState where
  k : Nat
  t : List (Nat × SV)
  H : List AObj

def lk (i : Nat) : List (Nat × SV) → SV
  | [] => .top
  | (j, v) :: t => if i = j then v else lk i t

def evl (t : List (Nat × SV)) : Operand → SV
  | .tmp i => lk i t
  | .const v => if v.oneCell' then .c (.sc v) else .top
  | .global _ => .top
  | .func f => .fn f [] []

def AState.ev (s : AState) (x : Operand) : SV := evl s.t x
def AState.put (s : AState) (d : Option Nat) (v : SV) : AState :=
  match d with
  | some d => { s with t := (d, v) :: s.t }
  | none => s

inductive AExit where
  | normal | exit (id : Nat) | ret | pan (v : Value)

def exitR : AExit → Exit → Prop
  | .normal, .normal => True
  | .exit i, .exit j => i = j
  | .ret, .ret => True
  | .pan v, .panic ch => ch = [{ v, recovered := false }]
  | _, _ => False

inductive Out where
  | ret (v : SV) | pan (v : Value)

/-- Where a function began. -/
structure Ent where
  w : World
  I : Nat → Prop
  ρ : List (Option Nat)
  H : List AObj

structure SRel (N : Nat) (ds : List Deferred) (E : Ent) (w : World) (I : Nat → Prop) (ρ : List (Option Nat)) (s : AState) (a : Act) : Prop where
  fr : Fr E.w E.I E.ρ w I ρ
  mv : Mv E.w E.I E.ρ E.H w I ρ s.H
  k : E.H.length = s.k
  h : HRel w I ρ s.H
  n : a.tmps.size = N
  ds : a.defers = ds
  t : ∀ i, SVR w I ρ s.H (lk i s.t) (a.tmps.getD i undef)

def OutR (w : World) (I : Nat → Prop) (ρ : List (Option Nat)) (H : List AObj) : Out → Ending → Prop
  | .ret sv, .returned v => SVR w I ρ H sv v
  | .pan p, .panicked ch => ch = [{ v := p, recovered := false }]
  | _, _ => False

/-- The contract of a function: over whatever memory in which H and the arguments are as told. -/
def ACalls (P : Program) (f : Nat) (args : List SV) (H : List AObj) (R : Out → List AObj → Prop) : Prop :=
  ∀ (w : World) (I : Nat → Prop) (ρ : List (Option Nat)) (vs : Array Value), HRel w I ρ H → SVR w I ρ H (.tup args) (.tuple vs) →
    Calls P f vs w fun e w' => ∃ o H' I' ρ', R o H' ∧ Fr w I ρ w' I' ρ' ∧ Mv w I ρ H w' I' ρ' H' ∧ HRel w' I' ρ' H' ∧ OutR w' I' ρ' H' o e

/-- The function has a text of its own. -/
def Bod (P : Program) (f : Nat) : Prop := (P.funcs[f]?).any (fun g => g.body.isSome && g.name != "runtime.NumGoroutine") = true

/-- A call, in the middle of code: into a function's text, or answered by the model itself. -/
def callP (P : Program) (f : Nat) (args : List SV) (H : List AObj) (K : SV → List AObj → Prop) (Qp : Value → List AObj → Prop) : Prop :=
  (Bod P f ∧ ACalls P f args H fun o H' => match o with
    | .ret v => K v H'
    | .pan p => Qp p H') ∨
  ∀ (w : World) (I : Nat → Prop) (ρ : List (Option Nat)) (vs : Array Value), HRel w I ρ H → SVR w I ρ H (.tup args) (.tuple vs) →
    ∃ u sv w' H' I' ρ', (callFunc f vs).run P w = .ok (.value u) w' ∧ Fr w I ρ w' I' ρ' ∧ Mv w I ρ H w' I' ρ' H' ∧ HRel w' I' ρ' H' ∧ SVR w' I' ρ' H' sv u ∧ K sv H'

/-- A piece of the model's code, over states. -/
def AWp (P : Program) (N : Nat) (ds : List Deferred) (c : Code) (Q : AExit → AState → Prop) (s : AState) : Prop :=
  ∀ E w I ρ a, SRel N ds E w I ρ s a → c.wp P (fun e a' w' => ∃ e' s' I' ρ', exitR e' e ∧ SRel N ds E w' I' ρ' s' a' ∧ Q e' s') a w

def AW (P : Program) (N : Nat) (ds : List Deferred) (c : ACode) (Q : AExit → AState → Prop) (s : AState) : Prop :=
  ∀ c', comp P N c' = some c → AWp P N ds c' Q s

/-! ### What each operation comes to -/
def isOne : SV → Bool
  | .ag _ | .tup _ | .top => false
  | _ => true
def svc : SV → Option (List SV)
  | .ag xs => if xs.all isOne then some xs else none
  | .tup _ => none
  | .top => none
  | x => some [x]
def dcs : List SV → Option (List Cell)
  | [] => some []
  | .c x :: xs => (dcs xs).map (x :: ·)
  | _ :: _ => none
def datac : SV → Option (List Cell)
  | .ag xs => dcs xs
  | .c x => some [x]
  | _ => none
def splice (cs : List SV) (off : Nat) (xs : List SV) : List SV := cs.take off ++ xs ++ cs.drop (off + xs.length)
def asSl : SV → Option (Nat × List (List Cell))
  | .c (.sl m xs) => some (m, xs)
  | .c (.sc (.slice none 0 0)) => some (0, [])
  | _ => none
def asStr : SV → Option ByteArray
  | .c (.sc (.string s)) => some s
  | _ => none
def asInt : SV → Option (IntKind × Int)
  | .c (.sc (.int k n)) => some (k, n)
  | _ => none
def optInt (ev : Operand → SV) (d : Int) : Option Operand → Option Int
  | none => some d
  | some x => (asInt (ev x)).map (·.2)
def scv (v : Value) : SV := .c (.sc v)

/-- Two values without memory. -/
def binV (op : BinOp) (bk : BK) : Value → Value → Option Value
  | .int k a, .int k' b =>
    match op with
    | .shl => if b < 0 then none else some (.int k (k.wrap (a * 2 ^ (min b.toNat k.bits))))
    | .shr => if b < 0 then none else some (.int k (a.fdiv (2 ^ (min b.toNat k.bits))))
    | .add => if k = k' then some (.int k (k.wrap (a + b))) else none
    | .sub => if k = k' then some (.int k (k.wrap (a - b))) else none
    | .mul => if k = k' then some (.int k (k.wrap (a * b))) else none
    | .quo => if k = k' ∧ b ≠ 0 then some (.int k (k.wrap (a.tdiv b))) else none
    | .rem => if k = k' ∧ b ≠ 0 then some (.int k (a.tmod b)) else none
    | .and => if k = k' then some (.int k (k.wrap (BitVec.ofInt k.bits a &&& BitVec.ofInt k.bits b).toNat)) else none
    | .or => if k = k' then some (.int k (k.wrap (BitVec.ofInt k.bits a ||| BitVec.ofInt k.bits b).toNat)) else none
    | .xor => if k = k' then some (.int k (k.wrap (BitVec.ofInt k.bits a ^^^ BitVec.ofInt k.bits b).toNat)) else none
    | .eql => if k = k' then some (.bool (a == b)) else none
    | .neq => if k = k' then some (.bool (a != b)) else none
    | .lss => if k = k' then some (.bool (a < b)) else none
    | .leq => if k = k' then some (.bool (a ≤ b)) else none
    | .gtr => if k = k' then some (.bool (a > b)) else none
    | .geq => if k = k' then some (.bool (a ≥ b)) else none
    | _ => none
  | .string a, .string b =>
    match op with
    | .eql => some (.bool (a.toList == b.toList))
    | .neq => some (.bool (!(a.toList == b.toList)))
    | .lss => some (.bool (Op.bytesLess a.toList b.toList))
    | _ => none
  | .bool a, .bool b =>
    match op, bk with
    | .eql, .bool => some (.bool (a == b))
    | .neq, .bool => some (.bool (!(a == b)))
    | _, _ => none
  | .float k a, .float k' b =>
    if k ≠ k' then none else
    match op with
    | .eql => some (.bool (k.format.order a b == some .eq))
    | .neq => some (.bool (k.format.order a b != some .eq))
    | .lss => some (.bool (k.format.order a b == some .lt))
    | .gtr => some (.bool (k.format.order a b == some .gt))
    | _ => none
  | .slice none 0 0, .slice none 0 0 => match op, bk with
    | .eql, .slice => some (.bool true)
    | .neq, .slice => some (.bool false)
    | _, _ => none
  | .pointer none, .pointer none => match op, bk with
    | .eql, .ptr => some (.bool true)
    | .neq, .ptr => some (.bool false)
    | _, _ => none
  | _, _ => none

def eqC : Nat → Value → Value → Option Bool
  | 0, .int k a, .int k' b => if k = k' then some (decide (a = b)) else none
  | 1, .bool a, .bool b => some (a == b)
  | 2, .string a, .string b => some (a == b)
  | 3, .float k a, .float k' b => if k = k' then some (k.format.order a b == some .eq) else none
  | _, _, _ => none
def eqL : List Nat → List SV → List SV → Option Bool
  | [], [], [] => some true
  | k :: ks, .c (.sc a) :: xs, .c (.sc b) :: ys => match eqC k a b, eqL ks xs ys with
    | some p, some q => some (p && q)
    | _, _ => none
  | _, _, _ => none

def binK (op : BinOp) (bk : BK) (H : List AObj) (x y : SV) (K : SV → Prop) : Prop :=
  match x, y with
  | .c (.sc a), .c (.sc b) => ∃ v, binV op bk a b = some v ∧ K (scv v)
  | .c (.sl _ xs), .c (.sc (.slice none 0 0)) => bk = .slice ∧ ((op = .eql ∧ (xs = [] → K (scv (.bool true))) ∧ K (scv (.bool false))) ∨ (op = .neq ∧ (xs = [] → K (scv (.bool false))) ∧ K (scv (.bool true))))
  | .ptr r _, .c (.sc (.pointer none)) => bk = .ptr ∧ (∃ cells, H[r]? = some (.box cells)) ∧ ((op = .eql ∧ K (scv (.bool false))) ∨ (op = .neq ∧ K (scv (.bool true))))
  | .dp _, .c (.sc (.pointer none)) => bk = .ptr ∧ ((op = .eql ∧ K (scv (.bool false))) ∨ (op = .neq ∧ K (scv (.bool true))))
  | _, _ => False

def unV (op : UnOp) : Value → Option Value
  | .bool b => if op = .not then some (.bool !b) else none
  | .int k n => if op = .neg then some (.int k (k.wrap (0 - n))) else none
  | .float k b => if op = .neg then some (.float k (Op.negFloat k b)) else none
  | _ => none

def buildV (ev : Operand → SV) (cs : List SV) : List (Nat × Nat × Operand) → Option (List SV)
  | [] => some cs
  | (off, n, x) :: rest => match svc (ev x) with
    | some xs => if xs.length = n ∧ off + n ≤ cs.length then buildV ev (splice cs off xs) rest else none
    | none => none
def slitV (ev : Operand → SV) (m : Nat) : List Operand → Option (List (List Cell))
  | [] => some []
  | x :: xs => match datac (ev x), slitV ev m xs with
    | some cs, some r => if cs.length = m then some (cs :: r) else none
    | _, _ => none
def mmV (isMax : Bool) : Value → Value → Option Value
  | .int k a, .int k' b => if k = k' then some (.int k (if isMax then (if b > a then b else a) else (if b < a then b else a))) else none
  | _, _ => none
def callee : SV → Option (Nat × List SV × List SV)
  | .fn f a b => some (f, a, b)
  | _ => none
/-- Bytes as rows of one cell. -/
def byteRows (s : ByteArray) : List (List Cell) := s.data.toList.map fun b => [.sc (.int .u8 b.toNat)]
def rowBytes : List (List Cell) → Option (List UInt8)
  | [] => some []
  | [.sc (.int .u8 n)] :: xs => (rowBytes xs).map (UInt8.ofNat n.toNat :: ·)
  | _ :: _ => none
/-- What is appended. -/
def srcOf (x : SV) : Option (List (List Cell)) := (asSl x).map (·.2)

def aop (P : Program) (op : AOp) (ev : Operand → SV) (H : List AObj) (K : SV → List AObj → Prop) (Qp : Value → List AObj → Prop) : Prop :=
  match op with
  | .mv x => K (ev x) H
  | .pick c a b => match ev c with
    | .c (.sc (.bool t)) => K (if t then ev a else ev b) H
    | _ => False
  | .alloc z => K (.ptr H.length 0) (H ++ [.box (z.map scv)])
  | .box x => ∃ cs, svc (ev x) = some cs ∧ K (.ptr H.length 0) (H ++ [.box cs])
  | .build z parts => ∃ cs, buildV ev (z.map scv) parts = some cs ∧ K (.ag cs) H
  | .slit e m xs => match xs with
    | [] => K (.row H.length 0) (H ++ [.row true e m []])
    | _ => ∃ rows, slitV ev m xs = some rows ∧ K (.c (.sl m rows)) H
  | .load ag n x => match ev x with
    | .ptr r off => ∃ cells, H[r]? = some (.box cells) ∧ off + n ≤ cells.length ∧ K (if ag then .ag ((cells.drop off).take n) else cells.getD off .top) H ∧ (ag = false → n = 1)
    | .dp cs => n ≤ cs.length ∧ K (if ag then .ag ((cs.take n).map .c) else .c (cs.getD 0 (.sc undef))) H ∧ (ag = false → n = 1)
    | _ => False
  | .store n x v => match ev x with
    | .ptr r off => ∃ cells vs, H[r]? = some (.box cells) ∧ svc (ev v) = some vs ∧ vs.length = n ∧ off + n ≤ cells.length ∧ K .top (H.set r (.box (splice cells off vs)))
    | _ => False
  | .nilc x => match ev x with
    | .ptr r off => (∃ cells, H[r]? = some (.box cells)) ∧ K (.ptr r off) H
    | .dp cs => K (.dp cs) H
    | .fn f a b => K (.fn f a b) H
    | _ => False
  | .bin op bk x y => binK op bk H (ev x) (ev y) fun v => K v H
  | .eqs neg ks x y => match ev x, ev y with
    | .ag xs, .ag ys => ∃ b, eqL ks xs ys = some b ∧ K (scv (.bool (if neg then !b else b))) H
    | _, _ => False
  | .un op x => match ev x with
    | .c (.sc a) => ∃ v, unV op a = some v ∧ K (scv v) H
    | _ => False
  | .cvi k x => ∃ q, asInt (ev x) = some q ∧ K (scv (.int k (k.wrap q.2))) H
  | .cvs x => ∃ s, asStr (ev x) = some s ∧ K (ev x) H
  | .b2s x => ∃ q l, asSl (ev x) = some q ∧ rowBytes q.2 = some l ∧ K (scv (.string ⟨l.toArray⟩)) H
  | .s2b _ x => ∃ s, asStr (ev x) = some s ∧ s.size ≤ 140737488355328 ∧ K (.c (.sl 1 (byteRows s))) H
  | .i2f k x => ∃ q, asInt (ev x) = some q ∧ K (scv (.float k (k.nearest q.2))) H
  | .mki t x => match ev x with
    | .c (.sc v) => K (.ifc t v) H
    | _ => False
  | .mkf f first caps => K (.fn f (first.map ev) (caps.map ev)) H
  | .cut e m x lo hi mx => ∃ q l h, asSl (ev x) = some q ∧ (q.2 ≠ [] → q.1 = m) ∧ optInt ev 0 lo = some l ∧ optInt ev q.2.length hi = some h ∧ 0 ≤ l ∧ l ≤ h ∧ h ≤ q.2.length ∧
      match mx with
      | none => K (.c (.sl m ((q.2.take h.toNat).drop l.toNat))) H
      | some x => (∃ k, asInt (ev x) = some (k, h)) ∧ K (.row H.length ((q.2.take h.toNat).drop l.toNat).length) (H ++ [.row false e m ((q.2.take h.toNat).drop l.toNat)])
  | .cutS x lo hi => ∃ s l h, asStr (ev x) = some s ∧ optInt ev 0 lo = some l ∧ optInt ev s.size hi = some h ∧ 0 ≤ l ∧ l ≤ h ∧ h ≤ s.size ∧ K (scv (.string (s.extract l.toNat h.toNat))) H
  | .fad off x => match ev x with
    | .ptr r o => (∃ cells, H[r]? = some (.box cells)) ∧ K (.ptr r (o + off)) H
    | .dp cs => K (.dp (cs.drop off)) H
    | _ => False
  | .iad m x i => ∃ q k, asSl (ev x) = some q ∧ asInt (ev i) = some k ∧ q.1 = m ∧ 0 ≤ k.2 ∧ k.2 < q.2.length ∧ K (.dp (q.2.getD k.2.toNat [])) H
  | .iadA len m x i => ∃ k, asInt (ev i) = some k ∧ 0 ≤ k.2 ∧ k.2 < len ∧ match ev x with
    | .ptr r o => (∃ cells, H[r]? = some (.box cells)) ∧ K (.ptr r (o + k.2.toNat * m)) H
    | _ => False
  | .fld ag off n x => match ev x with
    | .ag cs => off + n ≤ cs.length ∧ K (if ag then .ag ((cs.drop off).take n) else cs.getD off .top) H ∧ (ag = false → n = 1)
    | _ => False
  | .idx x i => ∃ s k, asStr (ev x) = some s ∧ asInt (ev i) = some k ∧ 0 ≤ k.2 ∧ k.2 < s.size ∧ K (scv (.int .u8 ((s.data.getD k.2.toNat 0).toNat))) H
  | .ext x i => match ev x with
    | .tup vs => i < vs.length ∧ K (vs.getD i .top) H
    | _ => False
  | .call f args => ∃ q, callee (ev f) = some q ∧ callP P q.1 (q.2.1 ++ args.map ev ++ q.2.2) H K Qp
  | .len true x => ∃ s, asStr (ev x) = some s ∧ K (scv (.int .i64 s.size)) H
  | .len false x => match ev x with
    | .row r n => (∃ st e m xs, H[r]? = some (.row st e m xs) ∧ xs.length = n) ∧ (n ≤ 9223372036854775807 → K (scv (.int .i64 n)) H)
    | x => ∃ q, asSl x = some q ∧ (q.2.length ≤ 9223372036854775807 → K (scv (.int .i64 q.2.length)) H)
  | .app m bytes _ e s x => match ev s with
    | .row r n => ∃ st xs ys, H[r]? = some (.row st e m xs) ∧ xs.length = n ∧ srcOf (ev x) = some ys ∧ (∀ y ∈ ys, y.length = m) ∧ (xs.length + ys.length) * bytes ≤ 140737488355328 ∧
        K (.row r (xs.length + ys.length)) (H.set r (.row st e m (xs ++ ys)))
    | _ => False
  | .mm b args => match args with
    | [x, y] => match ev x, ev y with
      | .c (.sc a), .c (.sc c) => ∃ v, mmV b a c = some v ∧ K (scv v) H
      | _, _ => False
    | _ => False
  | .panic x => match ev x with
    | .ifc t v => Qp (.iface t v) H
    | _ => False

/-- Operations in the text's order. -/
def aops (P : Program) : List AO → (AExit → AState → Prop) → AState → Prop
  | [], Q, s => Q .normal s
  | o :: os, Q, s => match o.guard with
    | none => aop P o.op s.ev s.H (fun v H' => aops P os Q ({ s with H := H' }.put o.dst v)) (fun p H' => Q (.pan p) { s with H := H' })
    | some (t, want) => match lk t s.t with
      | .c (.sc (.bool b)) => if b = want then aop P o.op s.ev s.H (fun v H' => aops P os Q ({ s with H := H' }.put o.dst v)) (fun p H' => Q (.pan p) { s with H := H' }) else aops P os Q (s.put o.dst (.tup []))
      | .tup [] => aops P os Q (s.put o.dst (.tup []))
      | _ => False

/-- The first k operations change nothing and may be met in any order; the others follow in the text's. -/
def daops (P : Program) : Nat → List AO → (AExit → AState → Prop) → AState → Prop
  | 0, os, Q, s => aops P os Q s
  | _ + 1, [], Q, s => Q .normal s
  | k + 1, o :: os, Q, s => match o.guard with
    | none => ∃ v, aop P o.op s.ev s.H (fun v' H' => v' = v ∧ H' = s.H) (fun _ _ => False) ∧ daops P k os Q (s.put o.dst v)
    | some (t, want) => match lk t s.t with
      | .c (.sc (.bool b)) => if b = want then ∃ v, aop P o.op s.ev s.H (fun v' H' => v' = v ∧ H' = s.H) (fun _ _ => False) ∧ daops P k os Q (s.put o.dst v) else daops P k os Q (s.put o.dst (.tup []))
      | .tup [] => daops P k os Q (s.put o.dst (.tup []))
      | _ => False

/-- What guards an operation. -/
def aguard (s : AState) (g : Option (Nat × Bool)) : Option Bool :=
  match g with
  | none => some true
  | some (t, want) => match lk t s.t with
    | .c (.sc (.bool b)) => some (b == want)
    | .tup [] => some false
    | _ => none
/-- An operation that changes nothing tells v. -/
def okA (P : Program) (o : AO) (s : AState) (v : SV) : Prop :=
  ∃ b, aguard s o.guard = some b ∧ if b then aop P o.op s.ev s.H (fun v' H' => v' = v ∧ H' = s.H) (fun _ _ => False) else v = .tup []
/-- Behind a call, those that may still come tell what they told. -/
def againA (P : Program) (s : AState) : List AO → Prop
  | [] => True
  | o :: os => (∀ d, o.dst = some d → okA P o s (lk d s.t)) ∧ againA P s os
/-- A head with calls that write; the others follow in the text's order. -/
def maops (P : Program) : List (Option (List AO) × AO) → List AO → (AExit → AState → Prop) → AState → Prop
  | [], tl, Q, s => aops P tl Q s
  | (none, o) :: os, tl, Q, s => ∃ v, okA P o s v ∧ maops P os tl Q (s.put o.dst v)
  | (some re, o) :: os, tl, Q, s => aop P o.op s.ev s.H (fun v H1 => againA P ⟨s.k, s.t, H1⟩ re ∧ maops P os tl Q (AState.put ⟨s.k, s.t, H1⟩ o.dst v)) (fun p H1 => ∀ t, Q (.pan p) ⟨s.k, t, H1⟩)
end Go.Proofs.YtbnelpgogjbgjaaGreat.Q
