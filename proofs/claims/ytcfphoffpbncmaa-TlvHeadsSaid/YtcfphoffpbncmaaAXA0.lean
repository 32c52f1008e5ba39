/- The abstract executor, part 0: its definitions. An abstract state tells of each slot of a frame what it holds (numbers, strings, slices as lists, rows and variables that the call made by their numbers); 'awp' says what is to be shown for a function's code to end as asked. Nothing is claimed here. -/
import Derived.WalkKit
set_option linter.unusedVariables false
namespace Go.AX

mutual
inductive Ty where
  | int (k : IntKind) | bool | str | sl (e : TypeId) (r : Row)
inductive Row where
  | one (t : Ty) | cons (t : Ty) (r : Row)
end
mutual
@[reducible] def Ty.den : Ty → Type
  | .int _ => Int | .bool => Bool | .str => ByteArray | .sl _ r => List r.den
@[reducible] def Row.den : Row → Type
  | .one t => t.den | .cons t r => t.den × r.den
end
def Row.size : Row → Nat
  | .one _ => 1 | .cons _ r => r.size + 1
def Ty.zero : (t : Ty) → t.den
  | .int _ => (0 : Int) | .bool => false | .str => ByteArray.empty | .sl _ _ => []
def Row.zero : (r : Row) → r.den
  | .one t => t.zero | .cons t r => (t.zero, r.zero)

/- bs: a slice that is only lent: it may be read, not kept. er: an error (an interface value that is nil, or a number of type t): its number, 0 if it is none. qb: a truth of which it is known what follows of it. -/
/-- What one cell holds. own, ptr, eptr: by the number of an object of the state; rptr: the place of an element of a slice that is only read. clo: a function value with one captured variable, which is only read. -/
inductive CV where
  | v (x : Value)
  | sl (e : TypeId) (r : Row) (xs : List r.den)
  | own (id : Nat)
  | ptr (id off : Nat)
  | rptr (r : Row) (xs : List r.den) (i : Int) (off : Nat)
  | eptr (id : Nat) (i : Int) (off : Nat)
  | clo (f : Nat) (r : Row) (x : r.den)
  | any
  | bs (r : Row) (xs : List r.den)
  | er (t : TypeId) (c : Int)
  | qb (p q : Prop)
inductive SV where
  | c (x : CV) | agg (cs : List CV)
inductive AV where
  | s (x : SV) | tup (xs : List SV)
/- zbox: a variable that is made somewhere in a region whose order is drawn: it may not be there yet. -/
/- nest: a row whose elements have a row of their own each (and a number ahead of it); ov: of one element the row is out. -/
/-- An object: a row that the call made and may append to; one that is only read from now on; a variable in memory; one that is gone. -/
inductive Obj where
  | row (e : TypeId) (r : Row) (xs : List r.den)
  | fro (e : TypeId) (r : Row) (xs : List r.den)
  | box (e : TypeId) (cs : List CV)
  | gone
  | nest (e : TypeId) (pk : Option IntKind) (eb : TypeId) (r : Row) (xs : List (Int × List r.den)) (ov : Option (Nat × CV))
  | zbox (e : TypeId) (cs : List CV)
abbrev AV.cv (x : CV) : AV := .s (.c x)
abbrev AV.i (n : Int) : AV := .s (.c (.v (.int .i64 n)))
abbrev AV.b (t : Bool) : AV := .s (.c (.v (.bool t)))

def Ty.cv : (t : Ty) → t.den → CV
  | .int k, n => .v (.int k n) | .bool, b => .v (.bool b) | .str, s => .v (.string s) | .sl e r, xs => .sl e r xs
def Row.cvs : (r : Row) → r.den → List CV
  | .one t, x => [t.cv x] | .cons t r, x => t.cv x.1 :: r.cvs x.2
/-- A list of one shape as a list of another one, if they are the same: by the shapes that occur. -/
def castRow : (r' r : Row) → List r'.den → Option (List r.den)
  | .one (.int k'), .one (.int k), xs => if k' = k then some xs else none
  | .one .bool, .one .bool, xs => some xs
  | .one .str, .one .str, xs => some xs
  | .one (.sl e' (.one (.int k'))), .one (.sl e (.one (.int k))), xs => if e' = e ∧ k' = k then some xs else none
  | .cons (.sl e' (.one (.int k'))) (.cons (.int i') (.one (.sl f' (.one (.int l'))))), .cons (.sl e (.one (.int k))) (.cons (.int i) (.one (.sl f (.one (.int l))))), xs => if e' = e ∧ k' = k ∧ i' = i ∧ f' = f ∧ l' = l then some xs else none
  | .cons (.int i') (.cons (.int j') (.one (.sl f' (.one (.int l'))))), .cons (.int i) (.cons (.int j) (.one (.sl f (.one (.int l))))), xs => if i' = i ∧ j' = j ∧ f' = f ∧ l' = l then some xs else none
  | .one (.sl g' (.cons (.sl e' (.one (.int k'))) (.cons (.int i') (.one (.sl f' (.one (.int l'))))))), .one (.sl g (.cons (.sl e (.one (.int k))) (.cons (.int i) (.one (.sl f (.one (.int l))))))), xs => if g' = g ∧ e' = e ∧ k' = k ∧ i' = i ∧ f' = f ∧ l' = l then some xs else none
  | _, _, _ => none
def Ty.ofCv : (t : Ty) → CV → Option t.den
  | .int k, .v (.int k' n) => if k' = k then some n else none
  | .bool, .v (.bool b) => some b
  | .str, .v (.string s) => some s
  | .sl e r, .sl e' r' xs => if e' = e then castRow r' r xs else none
  | .sl _ _, .v (.slice none 0 0) => some []
  | _, _ => none
def Row.ofCvs : (r : Row) → List CV → Option r.den
  | .one t, [x] => t.ofCv x
  | .cons t r, x :: l => match t.ofCv x, r.ofCvs l with
    | some a, some b => some (a, b)
    | _, _ => none
  | _, _ => none

structure St where
  n : Nat
  sl : Nat → AV
  hp : List Obj
def upd (s : Nat → AV) (d : Nat) (v : AV) : Nat → AV := fun n => if n = d then v else s n
def St.put (st : St) (hp : List Obj) : Option Tmp → AV → St
  | none, _ => { st with hp := hp }
  | some d, v => { st with sl := upd st.sl d v, hp := hp }
def hget : List Obj → Nat → Obj
  | [], _ => .gone
  | o :: _, 0 => o
  | _ :: l, n + 1 => hget l n
def hset : List Obj → Nat → Obj → List Obj
  | [], _, _ => []
  | _ :: l, 0, x => x :: l
  | o :: l, n + 1, x => o :: hset l n x
def ofConst : Value → AV
  | .agg cs => if (cs.toList.all (·.oneCell')) = true then .s (.agg (cs.toList.map CV.v)) else .cv .any
  | .tuple _ => .cv .any
  | v => .cv (.v v)
def St.get (st : St) (t : Tmp) : AV := if t < st.n then st.sl t else .cv .any
def St.ev (st : St) : Operand → AV
  | .tmp t => st.get t
  | .const v => ofConst v
  | .func f => .cv (.v (.func (.func f) #[] #[]))
  | .global _ => .cv .any

inductive Conv where
  | int (k : IntKind) | toStr | mark | strId | no
/-- What the executor is told of the program's types. -/
structure Env where
  slice : TypeId → Option (TypeId × Row × Nat)   -- of a slice's type: its elements' type, their shape, how many bytes one takes
  var : TypeId → Option (Bool × Nat)             -- is it a struct or an array; how many cells
  fld : TypeId → Nat → Option (Nat × Bool × Nat) -- of a struct's field: its place; is it a struct or an array; how many cells
  zero : TypeId → Option (List Value)            -- the zero value's cells
  strct : TypeId → Option (List (Nat × Nat))     -- of a struct: its fields' places and cells
  conv : TypeId → TypeId → Conv
  conc : TypeId → Bool                           -- a type that an interface can hold
  str : TypeId → Bool
  bool : TypeId → Bool := fun _ => false
  ifc : TypeId → Bool := fun _ => false          -- an interface's type
  row : TypeId → Option Row := fun _ => none     -- the shape of a variable that a function value captures
  nest : TypeId → Option (Option IntKind × TypeId × Row) := fun _ => none  -- a slice whose elements have rows of their own
  err : TypeId → Bool := fun _ => false          -- the type of errors that are numbers
  ptr : TypeId → Bool := fun _ => false          -- a pointer's type

def byteAt (s : ByteArray) (i : Int) : Int := ((s.data.toList.getD i.toNat 0).toNat : Int)
/-- A slice as it is read: its elements' type, their shape, the elements. -/
def sliceOf (hp : List Obj) : CV → Option (TypeId × (r : Row) × List r.den)
  | .sl e r xs => some (e, ⟨r, xs⟩)
  | .own id => match hget hp id with
    | .row e r xs => some (e, ⟨r, xs⟩)
    | .fro e r xs => some (e, ⟨r, xs⟩)
    | _ => none
  | .bs r xs => some (0, ⟨r, xs⟩)
  | _ => none
/-- Is it known that this is one cell's value? -/
def CV.solid (hp : List Obj) : CV → Bool
  | .v x => x.oneCell'
  | .sl .. => true
  | .own id => match hget hp id with
    | .row .. => true
    | .fro .. => true
    | .nest .. => true
    | _ => false
  | .ptr id _ => match hget hp id with
    | .box .. => true
    | _ => false
  | .er .. => true
  | _ => false
/-- What is laid into a row, or handed to a call, is only read from then on. -/
def froz (hp : List Obj) : CV → CV × List Obj
  | .own id => match hget hp id with
    | .row e r xs => (.sl e r xs, hset hp id (.fro e r xs))
    | .fro e r xs => (.sl e r xs, hp)
    | _ => (.any, hp)
  | x => (x, hp)
def frozs : List Obj → List CV → List CV × List Obj
  | hp, [] => ([], hp)
  | hp, x :: l => match froz hp x with
    | (y, hp) => match frozs hp l with
      | (m, hp) => (y :: m, hp)
def SV.list : SV → List CV
  | .c x => [x]
  | .agg cs => cs
def mkSV (agg : Bool) (cs : List CV) (K : SV → Prop) : Prop :=
  if agg then K (.agg cs) else match cs with
    | [x] => K (.c x)
    | _ => False
/-- cst: one of the operands is a constant. -/
def binV (E : Env) (op : BinOp) (ty : TypeId) (cst : Bool) (x y : Value) (K : Value → Prop) : Prop :=
  match x, y with
  | .int k a, .int k' b => match op with
    | .shl => 0 ≤ b ∧ K (.int k (k.wrap (a * 2 ^ (min b.toNat k.bits))))
    | .shr => 0 ≤ b ∧ K (.int k (a.fdiv (2 ^ (min b.toNat k.bits))))
    | .add => if k = k' then K (.int k (k.wrap (a + b))) else False
    | .sub => if k = k' then K (.int k (k.wrap (a - b))) else False
    | .mul => if k = k' then K (.int k (k.wrap (a * b))) else False
    | .quo => if k = k' then b ≠ 0 ∧ K (.int k (k.wrap (a.tdiv b))) else False
    | .rem => if k = k' then b ≠ 0 ∧ K (.int k (a.tmod b)) else False
    | .and => if k = k' then K (.int k (k.wrap (BitVec.ofInt k.bits a &&& BitVec.ofInt k.bits b).toNat)) else False
    | .or => if k = k' then K (.int k (k.wrap (BitVec.ofInt k.bits a ||| BitVec.ofInt k.bits b).toNat)) else False
    | .eql => if k = k' then K (.bool (decide (a = b))) else False
    | .neq => if k = k' then K (.bool (!decide (a = b))) else False
    | .lss => if k = k' then K (.bool (decide (a < b))) else False
    | .leq => if k = k' then K (.bool (decide (a ≤ b))) else False
    | .gtr => if k = k' then K (.bool (decide (b < a))) else False
    | .geq => if k = k' then K (.bool (decide (b ≤ a))) else False
    | _ => False
  | .string a, .string b => match op with
    | .eql => K (.bool (a.toList == b.toList))
    | .neq => K (.bool !(a.toList == b.toList))
    | .lss => K (.bool (Op.bytesLess a.toList b.toList))
    | .leq => K (.bool (Op.bytesLess a.toList b.toList || a.toList == b.toList))
    | .gtr => K (.bool !(Op.bytesLess a.toList b.toList || a.toList == b.toList))
    | .geq => K (.bool !(Op.bytesLess a.toList b.toList))
    | _ => False
  | .bool a, .bool b => if E.bool ty = true then match op with
    | .eql => K (.bool (a == b))
    | .neq => K (.bool !(a == b))
    | _ => False
    else False
  | .nilIface, .nilIface => if E.ifc ty = true ∧ cst = true then match op with
    | .eql => K (.bool true)
    | .neq => K (.bool !true)
    | _ => False
    else False
  | .nilIface, .iface _ _ => if E.ifc ty = true then match op with
    | .eql => K (.bool false)
    | .neq => K (.bool !false)
    | _ => False
    else False
  | .iface _ _, .nilIface => if E.ifc ty = true then match op with
    | .eql => K (.bool false)
    | .neq => K (.bool !false)
    | _ => False
    else False
  | _, _ => False
/-- An error's number, if what comes with it holds. -/
def errOf (E : Env) : CV → Option (Int × Prop)
  | .er t c => if E.err t = true then some (c, True) else none
  | .v .nilIface => some (0, True)
  | .v (.iface t (.int .i64 n)) => if E.err t = true then some (n, n ≠ 0) else none
  | _ => none
/-- Two errors, two pointers, a slice and nil. -/
def binE (E : Env) (op : BinOp) (ty : TypeId) (cst : Bool) (hp : List Obj) (x y : CV) (K : CV → Prop) : Prop :=
  match errOf E x, errOf E y with
  | some (a, p), some (b, q) => (p ∧ q) ∧ E.ifc ty = true ∧ (cst = true ∨ a ≠ 0 ∨ b ≠ 0) ∧ match op with
    | .eql => K (.v (.bool (decide (a = b))))
    | .neq => K (.v (.bool (!decide (a = b))))
    | _ => False
  | _, _ => match x, y with
    | .ptr id off, .v (.pointer none) => if E.ptr ty = true then match hget hp id with
      | .box .. => match op with
        | .eql => K (.v (.bool false))
        | .neq => K (.v (.bool true))
        | _ => False
      | _ => False
      else False
    | x, .v (.slice none 0 0) => match E.slice ty, sliceOf hp x with
      | some _, some (_, ⟨_, xs⟩) => match op with
        | .eql => K (.qb (xs = []) True)
        | .neq => K (.qb True (xs = []))
        | _ => False
      | _, _ => False
    | _, _ => False
def isErr : CV → CV → Bool
  | .v (.iface _ _), .v (.iface _ _) => true
  | .v _, .v _ => false
  | _, _ => true
def isCst : Operand → Bool
  | .const _ => true
  | _ => false
def alen (E : Env) (t : TypeId) (hp : List Obj) (x : AV) (K : AV → List Obj → Prop) : Prop := match E.slice t with
  | some _ => match x with
    | .s (.c (.v (.slice none 0 0))) => K (.i 0) hp
    | .s (.c y) => match sliceOf hp y with
      | some (_, ⟨_, xs⟩) => K (.i xs.length) hp
      | none => match y with
        | .own id => match hget hp id with
          | .nest _ _ _ _ xs _ => K (.i xs.length) hp
          | _ => False
        | _ => False
    | _ => False
  | none => match E.str t, x with
    | true, .s (.c (.v (.string s))) => K (.i s.size) hp
    | _, _ => False
def nsz : Option IntKind → Nat
  | some _ => 2
  | none => 1
def nbo : Option IntKind → Nat
  | some _ => 1
  | none => 0
/-- A list with one element turned. -/
def lset {α : Type} (xs : List α) (i : Nat) (x : α) : List α := xs.set i x
/-- The row that is out is put back. -/
def absorb (hp : List Obj) (id : Nat) (K : List Obj → Prop) : Prop := match hget hp id with
  | .nest e pk eb r xs none => K hp
  | .nest e pk eb r xs (some (i, .own m)) => match hget hp m with
    | .row eb' r' ys => if eb' = eb then match castRow r' r ys with
      | some ys => m ≠ id ∧ i < xs.length ∧ K (hset (hset hp m .gone) id (.nest e pk eb r (lset xs i ((xs.getD i (0, [])).1, ys)) none))
      | none => False
      else False
    | _ => False
  | .nest e pk eb r xs (some (i, .v (.slice none 0 0))) => i < xs.length ∧ K (hset hp id (.nest e pk eb r (lset xs i ((xs.getD i (0, [])).1, [])) none))
  | _ => False
/-- One element's row is taken out: K of its number as an object. -/
def focus (hp : List Obj) (id i : Nat) (K : Option IntKind → Int → Nat → List Obj → Prop) : Prop := absorb hp id fun hp => match hget hp id with
  | .nest e pk eb r xs none => i < xs.length ∧ K pk (xs.getD i (0, [])).1 hp.length (hset hp id (.nest e pk eb r xs (some (i, .own hp.length))) ++ [.row eb r (xs.getD i (0, [])).2])
  | _ => False
def aappend (E : Env) (t : TypeId) (hp : List Obj) (x y : AV) (K : AV → List Obj → Prop) : Prop := match E.slice t, y with
  | some (e, r, bytes), .s (.c y) => match sliceOf hp y with
    | some (_, ⟨r', ys⟩) => match castRow r' r ys with
      | some ys => match x with
        | .s (.c (.own id)) => match hget hp id with
          | .row e' r'' xs => if e' = e then match castRow r'' r xs with
            | some xs => (xs.length + ys.length) * bytes ≤ 140737488355328 ∧ K (.cv (.own hp.length)) (hset hp id .gone ++ [.row e r (xs ++ ys)])
            | none => False
            else False
          | _ => False
        | .s (.c (.v (.slice none 0 0))) => ys.length * bytes ≤ 140737488355328 ∧ K (.cv (.own hp.length)) (hp ++ [.row e r ys])
        | _ => False
      | none => False
    | none => False
  | _, _ => False
/-- append to a row whose elements have rows of their own: such a row of one element or more, which the call made. -/
def isNest (hp : List Obj) : AV → Bool
  | .s (.c (.own id)) => match hget hp id with
    | .nest .. => true
    | _ => false
  | _ => false
def anappend (E : Env) (t : TypeId) (hp : List Obj) (x y : CV) (K : AV → List Obj → Prop) : Prop := match x, y with
  | .own a, .own b => absorb hp a fun hp => match hget hp a, hget hp b with
    | .nest e pk eb r xs none, .nest e' pk' eb' r' ys none => match E.slice t with
      | some (e0, r0, bytes) => if e0 = e ∧ e' = e ∧ eb' = eb ∧ pk' = pk ∧ r0.size = nsz pk then (a ≠ b ∧ 0 < ys.length ∧ (xs.length + ys.length) * bytes ≤ 140737488355328) ∧ match castRow r' r (ys.map (·.2)).flatten with
          | some _ => ys.all (fun y => y.2.isEmpty) = true ∧ K (.cv (.own hp.length)) (hset (hset hp a .gone) b .gone ++ [.nest e pk eb r (xs ++ ys.map fun y => (y.1, [])) none])
          | none => False
        else False
      | none => False
    | _, _ => False
  | _, _ => False
def aload0 (E : Env) (t : TypeId) (hp : List Obj) (p : AV) (K : AV → List Obj → Prop) : Prop := match E.var t with
  | some (agg, n) => match p with
    | .s (.c (.rptr r xs i off)) => if off + n ≤ r.size then mkSV agg (((r.cvs (xs.getD i.toNat r.zero)).drop off).take n) fun v => K (.s v) hp else False
    | .s (.c (.eptr id i off)) => match hget hp id with
      | .row _ r xs => if off + n ≤ r.size then mkSV agg (((r.cvs (xs.getD i.toNat r.zero)).drop off).take n) fun v => K (.s v) hp else False
      | _ => False
    | .s (.c (.ptr id off)) => match hget hp id with
      | .box _ cs => if off + n ≤ cs.length then mkSV agg ((cs.drop off).take n) fun v => K (.s v) hp else False
      | _ => False
    | _ => False
  | none => False
def aload (E : Env) (t : TypeId) (hp : List Obj) (p : AV) (K : AV → List Obj → Prop) : Prop := match p with
  | .s (.c (.eptr id i off)) => match hget hp id with
    | .nest _ pk _ _ _ _ => match E.var t with
      | some (true, n) => if off = 0 ∧ n = nsz pk then focus hp id i.toNat fun pk x m hp => match pk with
          | some k => K (.s (.agg [.v (.int k x), .own m])) hp
          | none => False
        else False
      | some (false, n) => if off = nbo pk ∧ n = 1 then focus hp id i.toNat fun _ _ m hp => K (.cv (.own m)) hp else False
      | none => False
    | _ => aload0 E t hp p K
  | _ => aload0 E t hp p K
def astore0 (E : Env) (t : TypeId) (hp : List Obj) (p x : AV) (K : List Obj → Prop) : Prop := match E.var t, x with
  | some (_, n), .s x => if x.list.length = n ∧ (x.list.all (·.solid hp)) = true then match p with
    | .s (.c (.ptr id off)) => match hget hp id with
      | .box e cs => if off + n ≤ cs.length then K (hset hp id (.box e (cs.take off ++ x.list ++ cs.drop (off + n)))) else False
      | .zbox e cs => if off + n ≤ cs.length then K (hset hp id (.box e (cs.take off ++ x.list ++ cs.drop (off + n)))) else False
      | _ => False
    | _ => False
    else False
  | _, _ => False
def astore (E : Env) (t : TypeId) (hp : List Obj) (p x : AV) (K : List Obj → Prop) : Prop := match p with
  | .s (.c (.eptr id i off)) => match E.var t, x with
    | some (_, n), .s x => match hget hp id with
      | .row e r xs => match r.ofCvs ((r.cvs (xs.getD i.toNat r.zero)).take off ++ x.list ++ (r.cvs (xs.getD i.toNat r.zero)).drop (off + n)) with
        | some y => if off + n ≤ r.size ∧ x.list.length = n ∧ (x.list.all (·.solid hp)) = true then K (hset hp id (.row e r (lset xs i.toNat y))) else False
        | none => False
      | .nest e pk eb r xs ov => match x with
        | .c c => if off = nbo pk ∧ n = 1 ∧ c.solid hp = true then (match ov with
            | some (i0, _) => i.toNat = i0
            | none => True) ∧ K (hset hp id (.nest e pk eb r xs (some (i.toNat, c)))) else False
        | _ => False
      | _ => False
    | _, _ => False
  | _ => astore0 E t hp p x K
def aparts (st : St) : Nat → List Obj → List (Nat × Operand) → (List (List CV) → List Obj → Prop) → Prop
  | _, hp, [], K => K [] hp
  | j, hp, (i, x) :: l, K => if i = j then match st.ev x with
    | .s x => match frozs hp x.list with
      | (cs, hp) => aparts st (j + 1) hp l fun m hp => K (cs :: m) hp
    | _ => False
    else False
def rowsOf (r : Row) : List (List CV) → Option (List r.den)
  | [] => some []
  | x :: l => match r.ofCvs x, rowsOf r l with
    | some a, some m => some (a :: m)
    | _, _ => none
/-- The parts of a row whose elements' own rows are nil. -/
def anparts (pk : Option IntKind) (st : St) : List (Nat × Operand) → (List Int → Prop) → Prop
  | [], K => K []
  | (i, x) :: l, K => match pk, st.ev x with
    | some k, .s (.agg [.v (.int k' n), .v (.slice none 0 0)]) => if k' = k then anparts pk st l fun m => K (n :: m) else False
    | none, .s (.c (.v (.slice none 0 0))) => anparts pk st l fun m => K (0 :: m)
    | _, _ => False
def iotas : Nat → List (Nat × Operand) → Bool
  | _, [] => true
  | j, (i, _) :: l => i == j && iotas (j + 1) l
/-- A struct out of its parts. -/
def abuild (pl : List (Nat × Nat)) (st : St) : List (Nat × Operand) → List CV → (List CV → Prop) → Prop
  | [], cs, K => K cs
  | (f, x) :: l, cs, K => match pl[f]?, st.ev x with
    | some (off, n), .s x => if x.list.length = n ∧ off + n ≤ cs.length ∧ (x.list.all (·.solid st.hp)) = true then abuild pl st l (cs.take off ++ x.list ++ cs.drop (off + n)) K else False
    | _, _ => False
def optI (st : St) (d : Int) : Option Operand → Option Int
  | none => some d
  | some x => match st.ev x with
    | .s (.c (.v (.int _ n))) => some n
    | _ => none
/-- What comes of a cut of a slice: it is only read from then on. -/
def acut (hp : List Obj) (x : CV) (lo hi : Option Operand) (st : St) (K : AV → List Obj → Prop) : Prop := match froz hp x with
  | (.sl e r xs, hp) => match optI st 0 lo, optI st xs.length hi with
    | some l, some h => (0 ≤ l ∧ l ≤ h ∧ h ≤ xs.length) ∧ K (.cv (.sl e r ((xs.take h.toNat).drop l.toNat))) hp
    | _, _ => False
  | (.bs r xs, hp) => match optI st 0 lo, optI st xs.length hi with
    | some l, some h => (0 ≤ l ∧ l ≤ h ∧ h ≤ xs.length) ∧ K (.cv (.bs r ((xs.take h.toNat).drop l.toNat))) hp
    | _, _ => False
  | _ => False
/-- A cut at the end of a row that the call made: it may still be appended to. -/
def acutOwn (hp : List Obj) (id : Nat) (hi : Option Operand) (st : St) (K : AV → List Obj → Prop) : Prop := match hget hp id with
  | .row e r xs => match optI st xs.length hi with
    | some h => (0 ≤ h ∧ h ≤ xs.length) ∧ K (.cv (.own hp.length)) (hset hp id .gone ++ [.row e r (xs.take h.toNat)])
    | none => False
  | .nest e pk eb r xs ov => match optI st xs.length hi with
    | some h => (0 ≤ h ∧ h ≤ xs.length) ∧ (match ov with
        | some (i0, _) => h.toNat ≤ i0
        | none => True) ∧ K (.cv (.own hp.length)) (hset hp id .gone ++ [.nest e pk eb r (xs.take h.toNat) none])
    | none => False
  | _ => False
def osz (hp : List Obj) (id : Nat) : Nat := match hget hp id with
  | .row _ r _ => r.size
  | .nest _ pk _ _ _ _ => nsz pk
  | _ => 0
def isOwn (hp : List Obj) : CV → Option Nat
  | .own id => match hget hp id with
    | .row .. => some id
    | .nest .. => some id
    | _ => none
  | _ => none

/-- Trees: what slots hold, objects told in place. -/
inductive T0 where
  | v (x : Value) | sl (e : TypeId) (r : Row) (xs : List r.den) | own (e : TypeId) (r : Row) (xs : List r.den)
  | rptr (r : Row) (xs : List r.den) (i : Int) (off : Nat) | clo (f : Nat) (r : Row) (x : r.den)
  | bs (r : Row) (xs : List r.den) | er (t : TypeId) (c : Int) | nest (e : TypeId) (pk : Option IntKind) (eb : TypeId) (r : Row) (xs : List (Int × List r.den))
inductive TV where
  | c (x : T0) | agg (cs : List T0) | box (e : TypeId) (cs : List T0)
/-- Of a function: what it asks of its arguments, what it hands back. -/
abbrev PSpec := List TV → Prop × List TV
/-- How an argument is handed to a call: raw: as it is; bor: a slice that is lent; ret: a slice that may be kept; box: a variable that the call may write to; mut: a row that it may write to. -/
inductive Md where
  | raw | bor (r : Row) | ret (r : Row) | box | mut (r : Row)
def Md.io : Md → Bool
  | .box => true | .mut _ => true | _ => false
/-- Of a function that writes to what it is handed: what it asks of its arguments; what it hands back; what becomes of the arguments that it may write to. -/
structure ISpec where
  md : List Md
  S : List TV → Prop × List TV × List TV
structure Sp where
  p : Nat → Option PSpec
  i : Nat → Option ISpec
def T0.inst (hp : List Obj) : T0 → CV × List Obj
  | .v x => (.v x, hp)
  | .sl e r xs => (.sl e r xs, hp)
  | .own e r xs => (.own hp.length, hp ++ [.row e r xs])
  | .rptr r xs i off => (.rptr r xs i off, hp)
  | .clo f r x => (.clo f r x, hp)
  | .bs r xs => (.bs r xs, hp)
  | .er t c => (.er t c, hp)
  | .nest e pk eb r xs => (.own hp.length, hp ++ [.nest e pk eb r xs none])
def T0.insts : List Obj → List T0 → List CV × List Obj
  | hp, [] => ([], hp)
  | hp, t :: l => match t.inst hp with
    | (x, hp) => match T0.insts hp l with
      | (m, hp) => (x :: m, hp)
def TV.inst (hp : List Obj) : TV → SV × List Obj
  | .c t => match t.inst hp with
    | (x, hp) => (.c x, hp)
  | .agg ts => match T0.insts hp ts with
    | (m, hp) => (.agg m, hp)
  | .box e ts => match T0.insts hp ts with
    | (m, hp) => (.c (.ptr hp.length 0), hp ++ [.box e m])
def TV.insts : List Obj → List TV → List SV × List Obj
  | hp, [] => ([], hp)
  | hp, t :: l => match t.inst hp with
    | (x, hp) => match TV.insts hp l with
      | (m, hp) => (x :: m, hp)
def asArg0 : CV → Option T0
  | .v x => if x.oneCell' = true then some (.v x) else none
  | .sl e r xs => some (.sl e r xs)
  | .rptr r xs i off => some (.rptr r xs i off)
  | .clo f r x => some (.clo f r x)
  | .er t c => some (.er t c)
  | _ => none
def asArgs0 : List CV → Option (List T0)
  | [] => some []
  | x :: l => match asArg0 x, asArgs0 l with
    | some a, some m => some (a :: m)
    | _, _ => none
/-- The arguments of a call, in order. -/
def acargs (st : St) : List Obj → List Operand → (List TV → List Obj → Prop) → Prop
  | hp, [], K => K [] hp
  | hp, x :: l, K => match st.ev x with
    | .s (.c y) => match froz hp y with
      | (y, hp) => match asArg0 y with
        | some a => acargs st hp l fun m hp => K (.c a :: m) hp
        | none => False
    | .s (.agg ys) => match frozs hp ys with
      | (ys, hp) => match asArgs0 ys with
        | some a => acargs st hp l fun m hp => K (.agg a :: m) hp
        | none => False
    | _ => False
def resK (hp : List Obj) (K : AV → List Obj → Prop) (res : List TV) : Prop := match TV.insts hp res with
  | ([x], hp) => K (.s x) hp
  | (xs, hp) => K (.tup xs) hp
/-- What is lent for a call: the trees told of cells; used: the objects that are handed over. -/
def dig0 (hp : List Obj) (used : List Nat) : CV → Option (T0 × List Nat)
  | .v x => if x.oneCell' = true then some (.v x, used) else none
  | .er t c => some (.er t c, used)
  | .sl e r xs => some (.sl e r xs, used)
  | .own id => match hget hp id with
    | .row e r xs => if used.contains id then none else some (.own e r xs, id :: used)
    | .fro e r xs => some (.sl e r xs, used)
    | .nest e pk eb r xs none => if used.contains id then none else some (.nest e pk eb r xs, id :: used)
    | .nest e pk eb r xs (some (i, .own m)) => match hget hp m with
      | .row eb' r' ys => if eb' = eb ∧ used.contains id = false ∧ used.contains m = false ∧ m ≠ id then match castRow r' r ys with
        | some ys => some (.nest e pk eb r (lset xs i ((xs.getD i (0, [])).1, ys)), m :: id :: used)
        | none => none
        else none
      | _ => none
    | _ => none
  | _ => none
def digs (hp : List Obj) : List Nat → List CV → Option (List T0 × List Nat)
  | used, [] => some ([], used)
  | used, x :: l => match dig0 hp used x with
    | some (t, used) => match digs hp used l with
      | some (m, used) => some (t :: m, used)
      | none => none
    | none => none
/-- An argument: its tree, what is handed over, which object the call may write to. -/
def iarg (hp : List Obj) (used : List Nat) : Md → AV → Option (TV × List Nat × List Nat)
  | .raw, .s (.c y) => match asArg0 y with
    | some t => some (.c t, used, [])
    | none => none
  | .raw, .s (.agg ys) => match asArgs0 ys with
    | some ts => some (.agg ts, used, [])
    | none => none
  | .bor r, .s (.c (.v (.slice none 0 0))) => some (.c (.bs r []), used, [])
  | .bor r, .s (.c y) => match sliceOf hp y with
    | some (_, ⟨r', xs⟩) => match castRow r' r xs with
      | some xs => some (.c (.bs r xs), used, [])
      | none => none
    | none => none
  | .ret r, .s (.c (.v (.slice none 0 0))) => some (.c (.sl 0 r []), used, [])
  | .ret r, .s (.c (.sl _ r' xs)) => match castRow r' r xs with
    | some xs => some (.c (.sl 0 r xs), used, [])
    | none => none
  | .box, .s (.c (.ptr id 0)) => match hget hp id with
    | .box e cs => if used.contains id then none else match digs hp (id :: used) cs with
      | some (ts, used) => some (.box e ts, used, [id])
      | none => none
    | _ => none
  | .mut r, .s (.c (.own id)) => match hget hp id with
    | .row e r' xs => if used.contains id then none else match castRow r' r xs with
      | some xs => some (.c (.own e r xs), id :: used, [id])
      | none => none
    | _ => none
  | _, _ => none
def iargs (st : St) : List Nat → List Md → List Operand → Option (List TV × List Nat × List Nat)
  | used, [], [] => some ([], used, [])
  | used, d :: ds, x :: l => match iarg st.hp used d (st.ev x) with
    | some (t, used, io) => match iargs st used ds l with
      | some (m, used, io') => some (t :: m, used, io ++ io')
      | none => none
    | none => none
  | _, _, _ => none
/-- Rows that are lent for reading alone are none of those handed over. -/
def lentOk (st : St) (used : List Nat) : List Md → List Operand → Bool
  | .bor _ :: ds, x :: l => (match st.ev x with
    | .s (.c (.own id)) => !used.contains id
    | _ => true) && lentOk st used ds l
  | _ :: ds, _ :: l => lentOk st used ds l
  | _, _ => true
def kill : List Obj → List Nat → List Obj
  | hp, [] => hp
  | hp, id :: l => kill (hset hp id .gone) l
/-- What became of what was handed over. -/
def after (hp0 : List Obj) : List Obj → List Nat → List TV → (List Obj → Prop) → Prop
  | hp, [], [], K => K hp
  | hp, id :: ids, .box e ts :: l, K => match T0.insts hp ts with
    | (cs, hp) => after hp0 (hset (hp ++ [.gone]) id (.box e cs)) ids l K
  | hp, id :: ids, .c (.own e r xs) :: l, K => match hget hp0 id with
    | .row e0 r0 xs0 => if e0 = e then match castRow r0 r xs0 with
      | some _ => after hp0 (hset (hp ++ [.gone]) id (.row e r xs)) ids l K
      | none => False
      else False
    | _ => False
  | _, _, _, _ => False
def iresK (hp0 hp : List Obj) (io : List Nat) (aft : List TV) (K : AV → List Obj → Prop) (res : List TV) : Prop := match TV.insts hp res with
  | ([x], hp) => after hp0 hp io aft (K (.s x))
  | (xs, hp) => after hp0 hp io aft (K (.tup xs))
def icall (I : ISpec) (st : St) (args : List Operand) (K : AV → List Obj → Prop) : Prop := match iargs st [] I.md args with
  | some (ts, used, io) => lentOk st used I.md args = true ∧ (I.S ts).1 ∧ iresK st.hp (kill st.hp used) io (I.S ts).2.2 K (I.S ts).2.1
  | none => False
def acall (S : Option PSpec) (st : St) (args : List Operand) (more : List TV) (K : AV → List Obj → Prop) : Prop := match S with
  | some S => acargs st st.hp args fun ts hp => (S (ts ++ more)).1 ∧ resK hp K (S (ts ++ more)).2
  | none => False

/-- One operation: K of its value and of the objects behind it. -/
def aop (E : Env) (spec : Sp) (op : Op) (st : St) (K : AV → List Obj → Prop) : Prop :=
  match op with
  | .move x => K (st.ev x) st.hp
  | .assign x => K (st.ev x) st.hp
  | .pick c a b => match st.ev c with
    | .s (.c (.v (.bool t))) => (t = true → K (st.ev a) st.hp) ∧ (t = false → K (st.ev b) st.hp)
    | _ => False
  | .binOp op ty x y _ => match st.ev x, st.ev y with
    | .s (.c a), .s (.c b) => match isErr a b, a, b with
      | false, .v a, .v b => binV E op ty (isCst x || isCst y) a b fun r => K (.cv (.v r)) st.hp
      | _, _, _ => binE E op ty (isCst x || isCst y) st.hp a b fun r => K (.cv r) st.hp
    | _, _ => False
  | .unOp .not _ x => match st.ev x with
    | .s (.c (.v (.bool b))) => K (.b !b) st.hp
    | _ => False
  | .indexAddr t x i => match E.slice t, st.ev x, st.ev i with
    | some (_, r0, _), .s (.c (.sl _ r xs)), .s (.c (.v (.int _ n))) => if r.size = r0.size then (0 ≤ n ∧ n < xs.length) ∧ K (.cv (.rptr r xs n 0)) st.hp else False
    | some (_, r0, _), .s (.c (.own id)), .s (.c (.v (.int _ n))) => match hget st.hp id with
      | .row _ r xs => if r.size = r0.size then (0 ≤ n ∧ n < xs.length) ∧ K (.cv (.eptr id n 0)) st.hp else False
      | .fro _ r xs => if r.size = r0.size then (0 ≤ n ∧ n < xs.length) ∧ K (.cv (.rptr r xs n 0)) st.hp else False
      | .nest _ pk _ _ xs _ => if nsz pk = r0.size then (0 ≤ n ∧ n < xs.length) ∧ K (.cv (.eptr id n 0)) st.hp else False
      | _ => False
    | some (_, r0, _), .s (.c (.bs r xs)), .s (.c (.v (.int _ n))) => if r.size = r0.size then (0 ≤ n ∧ n < xs.length) ∧ K (.cv (.rptr r xs n 0)) st.hp else False
    | _, _, _ => False
  | .load t p => aload E t st.hp (st.ev p) K
  | .store t p x => astore E t st.hp (st.ev p) (st.ev x) (K (.cv .any))
  | .alloc t => match E.zero t with
    | some z => K (.cv (.ptr st.hp.length 0)) (st.hp ++ [.box t (z.map CV.v)])
    | none => False
  | .box t x => match st.ev x with
    | .s x => if (x.list.all (·.solid st.hp)) = true then K (.cv (.ptr st.hp.length 0)) (st.hp ++ [.box t x.list]) else False
    | _ => False
  | .fieldAddr t p f => match E.fld t f, st.ev p with
    | some (o, _, _), .s (.c (.ptr id off)) => match hget st.hp id with
      | .box .. => K (.cv (.ptr id (off + o))) st.hp
      | _ => False
    | some (o, _, _), .s (.c (.rptr r xs i off)) => K (.cv (.rptr r xs i (off + o))) st.hp
    | some (o, _, _), .s (.c (.eptr id i off)) => match hget st.hp id with
      | .row .. => K (.cv (.eptr id i (off + o))) st.hp
      | .nest .. => K (.cv (.eptr id i (off + o))) st.hp
      | _ => False
    | _, _ => False
  | .field t x f => match E.fld t f, st.ev x with
    | some (o, agg, n), .s (.agg cs) => if o + n ≤ cs.length then mkSV agg ((cs.drop o).take n) fun v => K (.s v) st.hp else False
    | _, _ => False
  | .nilCheck x => match st.ev x with
    | .s (.c (.ptr id off)) => match hget st.hp id with
      | .box .. => K (.cv (.ptr id off)) st.hp
      | _ => False
    | .s (.c (.eptr id i off)) => match hget st.hp id with
      | .row .. => K (.cv (.eptr id i off)) st.hp
      | .nest .. => K (.cv (.eptr id i off)) st.hp
      | _ => False
    | .s (.c (.rptr r xs i off)) => K (.cv (.rptr r xs i off)) st.hp
    | _ => False
  | .build t parts => match E.zero t, E.strct t with
    | some z, some pl => abuild pl st parts.toList (z.map CV.v) fun cs => K (.s (.agg cs)) st.hp
    | _, _ => False
  | .buildSlice t len parts => match E.nest t with
    | some (pk, eb, r) => match E.slice t with
      | some (e, _, _) => anparts pk st parts.toList fun ys => if iotas 0 parts.toList = true ∧ ys.length = len ∧ len * nsz pk ≤ 16777216 ∧ 0 < len then K (.cv (.own st.hp.length)) (st.hp ++ [.nest e pk eb r (ys.map fun y => (y, [])) none]) else False
      | none => False
    | none => match E.slice t with
    | some (e, r, _) => aparts st 0 st.hp parts.toList fun cs hp => match rowsOf r cs with
      | some xs => if xs.length = len ∧ len * r.size ≤ 16777216 then K (.cv (.own hp.length)) (hp ++ [.row e r xs]) else False
      | none => False
    | none => False
  | .makeSlice t l c => match E.slice t, st.ev l, st.ev c with
    | some (e, r, bytes), .s (.c (.v (.int .i64 n))), .s (.c (.v (.int .i64 m))) => (0 ≤ n ∧ n ≤ m ∧ m * bytes ≤ 140737488355328 ∧ m * r.size ≤ 16777216) ∧ match E.nest t with
      | some (pk, eb, r) => K (.cv (.own st.hp.length)) (st.hp ++ [.nest e pk eb r (List.replicate n.toNat (0, [])) none])
      | none => match E.zero e with
        | some z => match r.ofCvs (z.map CV.v) with
          | some z => K (.cv (.own st.hp.length)) (st.hp ++ [.row e r (List.replicate n.toNat z)])
          | none => False
        | none => False
    | _, _, _ => False
  | .slice t x lo hi none => match E.slice t, st.ev x with
    | some (e, r, _), .s (.c (.v (.slice none 0 0))) => acut st.hp (.sl e r []) lo hi st K
    | some (_, r0, _), .s (.c y) => match lo, isOwn st.hp y with
      | none, some id => if osz st.hp id = r0.size then acutOwn st.hp id hi st K else False
      | _, _ => match sliceOf st.hp y with
        | some (_, ⟨r, _⟩) => if r.size = r0.size then acut st.hp y lo hi st K else False
        | none => False
    | _, _ => False
  | .convert s d x => match E.conv s d, st.ev x with
    | .int k, .s (.c (.v (.int _ n))) => K (.cv (.v (.int k (k.wrap n)))) st.hp
    | .strId, .s (.c (.v (.string s))) => K (.cv (.v (.string s))) st.hp
    | .toStr, .s (.c (.v (.slice none 0 0))) => K (.cv (.v (.string (strOfNums [])))) st.hp
    | .toStr, .s (.c y) => match sliceOf st.hp y with
      | some (_, ⟨.one (.int .u8), xs⟩) => K (.cv (.v (.string (strOfNums xs)))) st.hp
      | _ => False
    | .mark, .s (.c (.own id)) => match hget st.hp id with
      | .row e r (x :: xs) => K (.cv (.sl e r (x :: xs))) (hset st.hp id (.fro e r (x :: xs)))
      | _ => False
    | _, _ => False
  | .makeInterface t x => match st.ev x with
    | .s (.c (.v y)) => if E.conc t = true then K (.cv (.v (.iface t y))) st.hp else False
    | _ => False
  | .index t x i => match st.ev x, st.ev i with
    | .s (.c (.v (.string s))), .s (.c (.v (.int _ n))) => if E.str t = true then (0 ≤ n ∧ n < s.size) ∧ K (.cv (.v (.int .u8 (byteAt s n)))) st.hp else False
    | _, _ => False
  | .makeFunc (.func f) first cap => match first.toList, cap.toList with
    | [], [x] => match st.ev x with
      | .s (.c (.ptr id 0)) => match hget st.hp id with
        | .box e cs => match E.row e with
          | some r => match r.ofCvs cs with
            | some y => K (.cv (.clo f r y)) (hset st.hp id .gone)
            | none => False
          | none => False
        | _ => False
      | _ => False
    | _, _ => False
  | .extract x i => match st.ev x with
    | .tup xs => match xs[i]? with
      | some y => K (.s y) st.hp
      | none => False
    | _ => False
  | .call c => match c.callee with
    | .builtin .len => match c.args.toList, c.argTypes.toList with
      | [x], [t] => alen E t st.hp (st.ev x) K
      | _, _ => False
    | .builtin .append => match c.args.toList, c.argTypes.toList with
      | [x, y], [t, u] => if t = u then match isNest st.hp (st.ev x), st.ev x, st.ev y with
          | true, .s (.c a), .s (.c b) => anappend E t st.hp a b K
          | _, _, _ => aappend E t st.hp (st.ev x) (st.ev y) K
        else False
      | _, _ => False
    | .value f => match st.ev f with
      | .s (.c (.v (.func (.func g) first cap))) => if first.size = 0 ∧ cap.size = 0 then match spec.i g with
          | some I => icall I st c.args.toList K
          | none => acall (spec.p g) st c.args.toList [] K
        else False
      | .s (.c (.clo g r x)) => acall (spec.p g) st c.args.toList [.c (.rptr r [x] 0 0)] K
      | _ => False
    | _ => False
  | _ => False

/-! Values and objects told in full before the work goes on. -/
def CV.force : CV → (CV → Prop) → Prop
  | .v (.int k n), K => K (.v (.int k n))
  | .v (.bool b), K => K (.v (.bool b))
  | .v (.string s), K => K (.v (.string s))
  | .v x, K => K (.v x)
  | .sl e r xs, K => K (.sl e r xs)
  | .own id, K => K (.own id)
  | .ptr id off, K => K (.ptr id off)
  | .rptr r xs i off, K => K (.rptr r xs i off)
  | .eptr id i off, K => K (.eptr id i off)
  | .clo f r x, K => K (.clo f r x)
  | .any, K => K .any
  | .bs r xs, K => K (.bs r xs)
  | .er t c, K => K (.er t c)
  | .qb p q, K => K (.qb p q)
def cvsForce : List CV → (List CV → Prop) → Prop
  | [], K => K []
  | x :: l, K => x.force fun x => cvsForce l fun l => K (x :: l)
def SV.force : SV → (SV → Prop) → Prop
  | .c x, K => x.force fun x => K (.c x)
  | .agg l, K => cvsForce l fun l => K (.agg l)
def svsForce : List SV → (List SV → Prop) → Prop
  | [], K => K []
  | x :: l, K => x.force fun x => svsForce l fun l => K (x :: l)
def AV.force : AV → (AV → Prop) → Prop
  | .s x, K => x.force fun x => K (.s x)
  | .tup l, K => svsForce l fun l => K (.tup l)
def Obj.force : Obj → (Obj → Prop) → Prop
  | .row e r xs, K => K (.row e r xs)
  | .fro e r xs, K => K (.fro e r xs)
  | .box e l, K => cvsForce l fun l => K (.box e l)
  | .gone, K => K .gone
  | .nest e pk eb r xs ov, K => K (.nest e pk eb r xs ov)
  | .zbox e cs, K => K (.zbox e cs)
def hpForce : List Obj → (List Obj → Prop) → Prop
  | [], K => K []
  | x :: l, K => x.force fun x => hpForce l fun l => K (x :: l)
theorem CV.force_eq (x : CV) (K : CV → Prop) : x.force K = K x := by
  unfold CV.force
  split <;> rfl
theorem cvsForce_eq : ∀ (l : List CV) (K : List CV → Prop), cvsForce l K = K l
  | [], _ => rfl
  | x :: l, K => by
    unfold cvsForce
    rw [CV.force_eq, cvsForce_eq l]
theorem SV.force_eq (x : SV) (K : SV → Prop) : x.force K = K x := by
  cases x
  · exact CV.force_eq _ _
  · exact cvsForce_eq _ _
theorem svsForce_eq : ∀ (l : List SV) (K : List SV → Prop), svsForce l K = K l
  | [], _ => rfl
  | x :: l, K => by
    unfold svsForce
    rw [SV.force_eq, svsForce_eq l]
theorem AV.force_eq (x : AV) (K : AV → Prop) : x.force K = K x := by
  cases x
  · exact SV.force_eq _ _
  · exact svsForce_eq _ _
theorem Obj.force_eq (x : Obj) (K : Obj → Prop) : x.force K = K x := by
  cases x
  · rfl
  · rfl
  · exact cvsForce_eq _ _
  · rfl
  · rfl
  · rfl
theorem hpForce_eq : ∀ (l : List Obj) (K : List Obj → Prop), hpForce l K = K l
  | [], _ => rfl
  | x :: l, K => by
    unfold hpForce
    rw [Obj.force_eq, hpForce_eq l]
/-- The state after an operation. -/
def St.next (st : St) (hp : List Obj) (d : Option Tmp) (v : AV) (K : St → Prop) : Prop := v.force fun v => hpForce hp fun hp => K (st.put hp d v)
theorem St.next_eq (st : St) (hp : List Obj) (d : Option Tmp) (v : AV) (K : St → Prop) : st.next hp d v K = K (st.put hp d v) := by
  unfold St.next
  rw [AV.force_eq, hpForce_eq]
def aops (E : Env) (spec : Sp) (all : Array Oper) : List Oper → St → (St → Prop) → Prop
  | [], st, K => K st
  | o :: rest, st, K => match o.guard with
    | none => aop E spec o.op st fun v hp => st.next hp o.dst v fun st => aops E spec all rest st K
    | some (j, want) => match (all[j]?).bind (·.dst) with
      | some d => match st.get d with
        | .s (.c (.v (.bool b))) =>
          (b = want → aop E spec o.op { st with sl := upd st.sl d (.b want) } fun v hp => ({ st with sl := upd st.sl d (.b want) } : St).next hp o.dst v fun st => aops E spec all rest st K) ∧
          (b = !want → ({ st with sl := upd st.sl d (.b !want) } : St).next st.hp o.dst (.tup []) fun st => aops E spec all rest st K)
        | .tup [] => st.next st.hp o.dst (.tup []) fun st => aops E spec all rest st K
        | _ => False
      | none => False

/-! Regions whose order is drawn. -/
def T0.frz : T0 → T0
  | .own e r xs => .sl e r xs
  | x => x
def TV.frz : TV → TV
  | .c x => .c x.frz
  | .agg xs => .agg (xs.map T0.frz)
  | .box e xs => .box e xs
def T0.frzable : T0 → Bool
  | .nest .. => false
  | _ => true
def TV.frzable : TV → Bool
  | .c x => x.frzable
  | .agg xs => xs.all T0.frzable
  | .box .. => false
def T0.plain : T0 → Bool
  | .own .. => false
  | .nest .. => false
  | _ => true
def TV.plain : TV → Bool
  | .c x => x.plain
  | .agg xs => xs.all T0.plain
  | .box .. => false
/-- What a call hands back is only read from then on. -/
def frzS (spec : Sp) : Sp where
  p f := match spec.p f with
    | some S => some fun ts => ((S ts).1 ∧ ((S ts).2.all TV.frzable) = true, (S ts).2.map TV.frz)
    | none => none
  i f := match spec.i f with
    | some S => some { md := S.md, S := fun ts => ((S.S ts).1 ∧ ((S.S ts).2.1.all TV.frzable) = true ∧ (ts.all TV.plain) = true, (S.S ts).2.1.map TV.frz, (S.S ts).2.2) }
    | none => none
/-- 0: hangs on no object; 1: objects stay as they are; 2: all else. ld: calls and cuts that are of the last kind. -/
def opCls (E : Env) (ld : List Nat) (i : Nat) : Op → Nat
  | .binOp .. => 1
  | .alloc _ => 0
  | .move _ | .assign _ | .pick .. | .unOp .. | .extract .. | .field .. | .makeInterface .. => 0
  | .indexAddr .. | .fieldAddr .. | .nilCheck _ | .index .. | .build .. => 1
  | .load .. => if ld.contains i then 2 else 1
  | .convert s d _ => match E.conv s d with
    | .mark => 2
    | _ => 1
  | .call c => match c.callee with
    | .builtin .len => 1
    | .value _ => if ld.contains i then 2 else 1
    | _ => 2
  | .slice .. => if ld.contains i then 2 else 1
  | _ => 2
def aopD (E : Env) (spec : Sp) (cls : Nat) (op : Op) (st : St) (K : AV → List Obj → Prop) : Prop :=
  if cls = 2 then aop E spec op st K else aop E (frzS spec) op st fun v hp => hp = st.hp ∧ K v st.hp
def isAlloc : Op → Option TypeId
  | .alloc t => some t
  | _ => none
/-- The variables that a region makes: they have their places before it begins. -/
def zboxes (E : Env) : List Oper → List Obj
  | [] => []
  | o :: l => match isAlloc o.op with
    | some t => (match E.zero t with
      | some z => .zbox t (z.map CV.v)
      | none => .gone) :: zboxes E l
    | none => zboxes E l
/-- How many variables are made ahead of an operation. -/
def zat : List Oper → Nat → Nat
  | [], _ => 0
  | _, 0 => 0
  | o :: l, i + 1 => match isAlloc o.op with
    | some _ => zat l i + 1
    | none => zat l i
def aopsD (E : Env) (spec : Sp) (ld : List Nat) (n0 : Nat) (all : Array Oper) : Nat → List Oper → St → (St → Prop) → Prop
  | _, [], st, K => K st
  | i, o :: rest, st, K => match o.guard with
    | none => match isAlloc o.op with
      | some t => match E.zero t with
        | some _ => st.next st.hp o.dst (.cv (.ptr (n0 + zat all.toList i) 0)) fun st => aopsD E spec ld n0 all (i + 1) rest st K
        | none => False
      | none => aopD E spec (opCls E ld i o.op) o.op st fun v hp => st.next hp o.dst v fun st => aopsD E spec ld n0 all (i + 1) rest st K
    | some (j, want) => match (all[j]?).bind (·.dst) with
      | some d => match st.get d with
        | .s (.c (.v (.bool b))) =>
          isAlloc o.op = none ∧
          (b = want → aopD E spec (opCls E ld i o.op) o.op { st with sl := upd st.sl d (.b want) } fun v hp => ({ st with sl := upd st.sl d (.b want) } : St).next hp o.dst v fun st => aopsD E spec ld n0 all (i + 1) rest st K) ∧
          (b = !want → ({ st with sl := upd st.sl d (.b !want) } : St).next st.hp o.dst (.cv .any) fun st => aopsD E spec ld n0 all (i + 1) rest st K)
        | _ => False
      | none => False
/-- Whom an operation waits for, directly or not: as bits. -/
def masks : List Oper → List Nat → List Nat
  | [], acc => acc
  | o :: l, acc => masks l (acc ++ [o.after.toList.foldl (fun s e => if Region.binds .any e = true then s ||| 2 ^ e.on ||| acc.getD e.on 0 else s) 0])
def confl (all : Array Oper) (ca : Nat) (x : Oper) (cb : Nat) (y : Oper) : Bool :=
  (match x.dst with
    | some d => (y.looksAt all).contains d || y.dst == some d
    | none => false) ||
  (match y.dst with
    | some d => (x.looksAt all).contains d
    | none => false) ||
  ((ca != 0 && cb == 2) || (ca == 2 && cb != 0))
def drawOk (E : Env) (ld : List Nat) (ops : Array Oper) : Bool :=
  let ms := masks ops.toList []
  (List.range ops.size).all fun j => match ops[j]? with
    | some y => y.after.toList.all (fun e => !Region.binds .any e || decide (e.on < j)) && (List.range j).all fun i => match ops[i]? with
      | some x => !confl ops (opCls E ld i x.op) x (opCls E ld j y.op) y || (ms.getD j 0).testBit i
      | none => true
    | none => true

def instAll : List (Nat × TV) → St → St
  | [], st => st
  | (t, x) :: l, st => match x.inst st.hp with
    | (v, hp) => instAll l { n := st.n, sl := upd st.sl t (.s v), hp := hp }
def emptySt (n : Nat) : St := { n := n, sl := fun _ => .cv .any, hp := [] }
def rowEq (r' : Row) (xs' : List r'.den) (r : Row) (xs : List r.den) : Prop := match castRow r' r xs' with
  | some ys => ys = xs
  | none => False
def nestEq (r' : Row) (xs' : List (Int × List r'.den)) (r : Row) (xs : List (Int × List r.den)) : Prop := match r', r, xs', xs with
  | .one (.int k'), .one (.int k), xs', xs => if k' = k then xs' = xs else False
  | _, _, _, _ => False
def valEq : Value → Value → Prop
  | .int k a, .int k' b => if k = k' then a = b else False
  | .bool a, .bool b => a = b
  | .string a, .string b => a = b
  | z, x => z = x
theorem valEq_eq {z x : Value} (h : valEq z x) : z = x := by
  unfold valEq at h
  split at h
  · split at h
    · rename_i hk
      rw [hk, h]
    · exact h.elim
  · rw [h]
  · rw [h]
  · exact h
def T0.cov (hp : List Obj) (used : List Nat) : T0 → CV → (List Nat → Prop) → Prop
  | .v x, y, K => (match y with | .v z => valEq z x | _ => False) ∧ K used
  | .sl _ r xs, y, K => match y with
    | .sl _ r' ys => rowEq r' ys r xs ∧ K used
    | .own id => match hget hp id with
      | .row _ r' ys => if used.contains id then False else rowEq r' ys r xs ∧ K (id :: used)
      | .fro _ r' ys => rowEq r' ys r xs ∧ K used
      | _ => False
    | .v (.slice none 0 0) => [] = xs ∧ K used
    | _ => False
  | .own e r xs, y, K => match y with
    | .own id => match hget hp id with
      | .row e' r' ys => if used.contains id ∨ e' ≠ e then False else rowEq r' ys r xs ∧ K (id :: used)
      | _ => False
    | .v (.slice none 0 0) => [] = xs ∧ K used
    | _ => False
  | .rptr r xs i off, y, K => match y with
    | .rptr r' xs' i' off' => rowEq r' xs' r xs ∧ i' = i ∧ off' = off ∧ K used
    | .ptr id off' => match hget hp id with
      | .box _ cs => if used.contains id then False else match r.ofCvs cs with
        | some z => [z] = xs ∧ 0 = i ∧ off' = off ∧ K (id :: used)
        | none => False
      | _ => False
    | _ => False
  | .clo f r x, y, K => match y with
    | .clo f' r' x' => f' = f ∧ rowEq r' [x'] r [x] ∧ K used
    | _ => False
  | .bs r xs, y, K => match y with
    | .v (.slice none 0 0) => [] = xs ∧ K used
    | .bs r' ys => rowEq r' ys r xs ∧ K used
    | .sl _ r' ys => rowEq r' ys r xs ∧ K used
    | .own id => match hget hp id with
      | .row _ r' ys => if used.contains id then False else rowEq r' ys r xs ∧ K (id :: used)
      | .fro _ r' ys => rowEq r' ys r xs ∧ K used
      | _ => False
    | _ => False
  | .er t c, y, K => match y with
    | .er t' c' => if t' = t then c' = c ∧ K used else False
    | .v .nilIface => 0 = c ∧ K used
    | .v (.iface t' (.int .i64 n)) => if t' = t then n = c ∧ n ≠ 0 ∧ K used else False
    | _ => False
  | .nest e pk eb r xs, y, K => match y with
    | .own id => match hget hp id with
      | .nest e' pk' eb' r' ys none => if used.contains id ∨ e' ≠ e ∨ pk' ≠ pk ∨ eb' ≠ eb then False else nestEq r' ys r xs ∧ K (id :: used)
      | .nest e' pk' eb' r' ys (some (i, .own m)) => match hget hp m with
        | .row eb2 r2 zs => if eb2 ≠ eb' ∨ used.contains id ∨ used.contains m ∨ m = id ∨ e' ≠ e ∨ pk' ≠ pk ∨ eb' ≠ eb then False else match castRow r2 r' zs with
          | some zs => i < ys.length ∧ nestEq r' (lset ys i ((ys.getD i (0, [])).1, zs)) r xs ∧ K (m :: id :: used)
          | none => False
        | _ => False
      | _ => False
    | _ => False
def T0.covs (hp : List Obj) : List Nat → List T0 → List CV → (List Nat → Prop) → Prop
  | used, [], [], K => K used
  | used, t :: l, x :: m, K => t.cov hp used x fun used => T0.covs hp used l m K
  | _, _, _, _ => False
def TV.cov (hp : List Obj) (used : List Nat) : TV → SV → (List Nat → Prop) → Prop
  | .c t, .c x, K => t.cov hp used x K
  | .agg ts, .agg xs, K => T0.covs hp used ts xs K
  | .box e ts, .c (.ptr id 0), K => match hget hp id with
    | .box e' cs => if used.contains id ∨ e' ≠ e then False else T0.covs hp (id :: used) ts cs K
    | _ => False
  | _, _, _ => False
def covAll (st : St) : List Nat → List (Nat × TV) → Prop
  | _, [] => True
  | used, (t, x) :: l => match st.get t with
    | .s y => x.cov st.hp used y fun used => covAll st used l
    | _ => False

/-- A scheme: of a loop's head, or of a place where ways meet: what holds there of which slots. -/
structure Sch where
  ι : Type
  pre : ι → Prop
  sl : ι → List (Nat × TV)
  μ : ι → Nat
  rel : Option (ι → ι → Prop) := none   -- what ties every round to the loop's begin
structure Cfg where
  spec : Nat → Option PSpec := fun _ => none
  loop : Nat → Option Sch := fun _ => none
  cut : Nat → Option Sch := fun _ => none
  ld : Nat → List Nat := fun _ => []
  isp : Nat → Option ISpec := fun _ => none
def Cfg.sp (C : Cfg) : Sp := ⟨C.spec, C.isp⟩
inductive AEx where
  | normal | exit (id : Nat) | ret
def firstReg : Code → Nat
  | .region id _ _ => id
  | .seq a _ => firstReg a
  | .block _ c => firstReg c
  | .loop c => firstReg c
  | _ => 1000000
def acond (v : AV) (A B : Prop) : Prop := match v with
  | .s (.c (.v (.bool b))) => (b = true → A) ∧ (b = false → B)
  | .s (.c (.qb p q)) => (p → A) ∧ (q → B)
  | _ => False
def seqK (K : St → Prop) (Q : AEx → St → Prop) : AEx → St → Prop
  | .normal, st => K st
  | e, st => Q e st
def blockK (id : Nat) (Q : AEx → St → Prop) : AEx → St → Prop
  | .exit i, st => if i = id then Q .normal st else Q (.exit i) st
  | e, st => Q e st
def awp (E : Env) (C : Cfg) : Code → St → (AEx → St → Prop) → Prop
  | .skip, st, Q => Q .normal st
  | .region _ ops false, st, Q => aops E C.sp ops ops.toList st (Q .normal)
  | .region id ops true, st, Q => drawOk E (C.ld id) ops = true ∧ aopsD E C.sp (C.ld id) st.hp.length ops 0 ops.toList { st with hp := st.hp ++ zboxes E ops.toList } (Q .normal)
  | .seq a b, st, Q => match C.cut (firstReg b) with
    | none => awp E C a st (seqK (fun st' => awp E C b st' Q) Q)
    | some S => awp E C a st (seqK (fun st' => ∃ i, S.pre i ∧ covAll st' [] (S.sl i)) Q) ∧ ∀ i, S.pre i → awp E C b (instAll (S.sl i) (emptySt st.n)) Q
  | .cond c a b, st, Q => acond (st.ev c) (awp E C a st Q) (awp E C b st Q)
  | .block id c, st, Q => awp E C c st (blockK id Q)
  | .loop c, st, Q => match C.loop (firstReg c) with
    | none => False
    | some S => match S.rel with
      | none => (∃ i, S.pre i ∧ covAll st [] (S.sl i)) ∧
        ∀ i, S.pre i → awp E C c (instAll (S.sl i) (emptySt st.n)) (seqK (fun st' => ∃ j, S.pre j ∧ S.μ j < S.μ i ∧ covAll st' [] (S.sl j)) Q)
      | some rel => ∃ i0, (S.pre i0 ∧ rel i0 i0 ∧ covAll st [] (S.sl i0)) ∧
        ∀ i, S.pre i → rel i0 i → awp E C c (instAll (S.sl i) (emptySt st.n)) (seqK (fun st' => ∃ j, S.pre j ∧ rel i0 j ∧ S.μ j < S.μ i ∧ covAll st' [] (S.sl j)) Q)
  | .exit id, st, Q => Q (.exit id) st
  | .ret, st, Q => Q .ret st
  | _, _, _ => False
/-- What is told at a function's end: R of its results. -/
def resVal (E : Env) (st : St) : List ResultVar → (List SV → Prop) → Prop
  | [], K => K []
  | .tmp t :: l, K => match st.get t with
    | .s x => resVal E st l fun m => K (x :: m)
    | _ => False
  | .cell p t :: l, K => aload0 E t st.hp (st.get p) fun v _ => match v with
    | .s x => resVal E st l fun m => K (x :: m)
    | _ => False
def covRes (hp : List Obj) : List Nat → List TV → List SV → Prop
  | _, [], [] => True
  | used, t :: l, x :: m => t.cov hp used x fun used => covRes hp used l m
  | _, _, _ => False
/-- Results hold no memory that was only lent. -/
def T0.up : T0 → T0
  | .rptr .. => .v (.agg #[])
  | .clo .. => .v (.agg #[])
  | .bs .. => .v (.agg #[])
  | x => x
def TV.up : TV → TV
  | .c x => .c x.up
  | .agg xs => .agg (xs.map T0.up)
  | .box e xs => .box e (xs.map T0.up)
def retK (E : Env) (rs : List ResultVar) (ts : List TV) : AEx → St → Prop
  | .exit _, _ => False
  | _, st => resVal E st rs (covRes st.hp [] (ts.map TV.up))
/-- The places of the arguments that the call may write to. -/
def ioAt : Nat → List Md → List Nat
  | _, [] => []
  | j, d :: ds => match d.io with
    | true => j :: ioAt (j + 1) ds
    | false => ioAt (j + 1) ds
def iretK (E : Env) (rs : List ResultVar) (md : List Md) (ts : List TV × List TV) : AEx → St → Prop
  | .exit _, _ => False
  | _, st => resVal E st (rs ++ (ioAt 0 md).map .tmp) (covRes st.hp [] ((ts.1 ++ ts.2).map TV.up))
/-- Slots that the code writes to. -/
def Code.dsts : Code → List Nat
  | .region _ ops _ => ops.toList.filterMap (·.dst)
  | .seq a b => Code.dsts a ++ Code.dsts b
  | .cond _ a b => Code.dsts a ++ Code.dsts b
  | .block _ c => Code.dsts c
  | .loop c => Code.dsts c
  | _ => []
def argSt (n : Nat) : Nat → List TV → List (Nat × TV)
  | _, [] => []
  | j, t :: l => (j, t) :: argSt n (j + 1) l
end Go.AX
