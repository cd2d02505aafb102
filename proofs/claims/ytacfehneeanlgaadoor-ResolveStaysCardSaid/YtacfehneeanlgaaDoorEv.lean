/- An evaluator for the model's code: what a call computes, over plain data, in one fixed order, without a tape. Definitions alone; that they are right is shown in the texts behind it. -/
import Derived.WalkKit
import Derived.Orders
namespace Go.Proofs.YtacfehneeanlgaaDoor.Ev
open Go
set_option linter.unusedVariables false

/-! ### 1. Data, values -/
/-- Plain data: one cell's. A slice is the list of its elements, each the list of its cells. -/
inductive D where
  | int (n : Int)
  | bool (b : Bool)
  | str (s : ByteArray)
  | arr (xs : List (List D))
instance : Inhabited D := ⟨.int 0⟩
def D.toInt : D → Int | .int n => n | _ => 0
def D.toBool : D → Bool | .bool b => b | _ => false
def D.toStr : D → ByteArray | .str s => s | _ => ByteArray.empty
def D.toArr : D → List (List D) | .arr xs => xs | _ => []
/-- What kind a cell is of. -/
inductive CT where
  | int (k : IntKind)
  | bool
  | str
  | arr (cs : List CT)
  | fn
def CT.same : Nat → CT → CT → Bool
  | 0, _, _ => false
  | _ + 1, .int k, .int k' => decide (k = k')
  | _ + 1, .bool, .bool => true
  | _ + 1, .str, .str => true
  | _ + 1, .fn, .fn => true
  | n + 1, .arr cs, .arr ds => go n cs ds
  | _ + 1, _, _ => false
where go (n : Nat) : List CT → List CT → Bool
  | [], [] => true
  | c :: cs, d :: ds => CT.same n c d && go n cs ds
  | _, _ => false
def sameCTs : List CT → List CT → Bool
  | [], [] => true
  | c :: cs, d :: ds => CT.same 9 c d && sameCTs cs ds
  | _, _ => false

inductive Key where
  | loc (t : Nat)
  | out (i : Nat)
  | mp (t : Nat)
  /-- how many elements an object's slice has (no box) -/
  | mn (t : Nat)
  deriving DecidableEq
def Key.base : Key → Key | .mn t => .mp t | k => k
def Key.num : Key → Key | .mp t => .mn t | k => k
def Key.isMp : Key → Bool | .mp _ => true | .mn _ => true | _ => false
inductive V where
  | val (v : Value)
  | arr (cts : List CT) (xs : List (List D))
  | own (cts : List CT) (xs : List (List D))
  | ptr (k : Key) (off : Nat)
  | mp (t : Nat) (it : Bool)
  | eptr (cts : List CT) (xs : List (List D)) (i : Nat) (j : Nat)
  | agg (vs : List V)
  | tup (vs : List V)
  /-- a slice of which no other view was ever taken -/
  | uni (cts : List CT) (xs : List (List D))
  /-- a slice of which the length alone is told -/
  | slen (n : Nat)
  /-- a handle on a slice that is written in place (an object) -/
  | ms (t : Nat) (cts : List CT) (off len : Nat)
  /-- an address within such a slice -/
  | mptr (t : Nat) (cts : List CT) (i j : Nat)
  /-- a slice that nobody writes to, addresses among its cells: cells a row, rows -/
  | sarr (n : Nat) (rows : List (List V))
  /-- the address of one of its rows -/
  | sptr (n : Nat) (rows : List (List V)) (i : Nat)
instance : Inhabited V := ⟨.val undef⟩
def nilSlice : Value := .slice none 0 0
def V.view : V → V | .own c xs => .arr c xs | .uni _ xs => .slen xs.length | v => v
/-- A cell's value out of its kind and its data. -/
def CT.force : CT → D → V
  | .int k, d => .val (.int k d.toInt)
  | .bool, d => .val (.bool d.toBool)
  | .str, d => .val (.string d.toStr)
  | .arr cs, d => .arr cs d.toArr
  | .fn, d => .val (.func (.func d.toInt.toNat) #[] #[])
/-- A value as a cell of a kind. -/
def CT.tell : CT → V → Option D
  | .int k, .val (.int k' n) => if k = k' then some (.int n) else none
  | .bool, .val (.bool b) => some (.bool b)
  | .str, .val (.string s) => some (.str s)
  | .arr cs, .arr cs' xs => if sameCTs cs cs' then some (.arr xs) else none
  | .arr cs, .own cs' xs => if sameCTs cs cs' then some (.arr xs) else none
  | .arr _, .val (.slice none 0 0) => some (.arr [])
  | .fn, .val (.func (.func f) fi ca) => if fi.size = 0 ∧ ca.size = 0 then some (.int (f : Nat)) else none
  | _, _ => none
def tellAll : List CT → List V → Option (List D)
  | [], [] => some []
  | c :: cs, v :: vs => match c.tell v, tellAll cs vs with | some d, some ds => some (d :: ds) | _, _ => none
  | _, _ => none
/-- The bytes of a row of bytes. -/
def rowBytes (xs : List (List D)) : ByteArray := ⟨(xs.map fun e => UInt8.ofNat (e.getD 0 default).toInt.toNat).toArray⟩
def bytesRow (s : ByteArray) : List (List D) := s.data.toList.map fun b => [.int (b.toNat : Int)]
def byteAt (s : ByteArray) (i : Int) : Int := ((s.data.toList.getD i.toNat 0).toNat : Int)

/-! ### 2. States -/
inductive Loc where
  | tmp (t : Nat)
  | cell (k : Key) (o : Option Nat)
  | part (t i : Nat)
  deriving DecidableEq
structure St where
  env : List (Nat × V)
  box : List (Key × List V)
def setA {α β : Type} [DecidableEq α] : List (α × β) → α → β → List (α × β)
  | [], a, b => [(a, b)]
  | (c, x) :: r, a, b => if c = a then (a, b) :: r else (c, x) :: setA r a b
def getA {α β : Type} [DecidableEq α] : List (α × β) → α → Option β
  | [], _ => none
  | (c, x) :: r, a => if c = a then some x else getA r a
def delA {α β : Type} [DecidableEq α] : List (α × β) → α → List (α × β)
  | [], _ => []
  | (c, x) :: r, a => if c = a then delA r a else (c, x) :: delA r a
def St.tmp (σ : St) (t : Nat) : Option V := getA σ.env t
def St.cells (σ : St) (k : Key) : Option (List V) := getA σ.box k
def St.cell (σ : St) (k : Key) (o : Nat) : Option V := (σ.cells k).bind (·[o]?)
/-- A part of a tuple. -/
def St.part (σ : St) (t i : Nat) : Option V := match σ.tmp t with | some (.tup vs) => vs[i]? | _ => none
inductive W where
  | tmp (t : Nat) (v : Option V)
  | cell (k : Key) (o : Nat) (v : V)
  | box (k : Key) (cs : List V)
  | part (t i : Nat) (v : V)
def W.loc : W → Loc
  | .tmp t _ => .tmp t
  | .cell k o _ => .cell k (some o)
  | .box k _ => .cell k none
  | .part t i _ => .part t i
def St.put (σ : St) : W → St
  | .tmp t (some v) => { σ with env := setA σ.env t v }
  | .tmp t none => { σ with env := delA σ.env t }
  | .cell k o v => match σ.cells k with
    | some cs => { σ with box := setA σ.box k (cs.set o v) }
    | none => σ
  | .box k cs => { σ with box := setA σ.box k cs }
  | .part t i v => match σ.tmp t with
    | some (.tup vs) => { σ with env := setA σ.env t (.tup (vs.set i v)) }
    | _ => σ
def St.puts (σ : St) : List W → St
  | [] => σ
  | x :: r => (σ.put x).puts r

/-! ### 3. What an operation reads and writes -/
inductive M (α : Type) where
  | ret (a : α)
  | fail
  | tmp (t : Nat) (k : V → M α)
  | cell (b : Key) (o : Nat) (k : V → M α)
  | cells (b : Key) (k : List V → M α)
  | fresh (b : Key) (k : M α)
  | part (t i : Nat) (k : V → M α)
  | ask (b : Bool) (t f : M α)
def M.run {α : Type} (σ : St) : M α → Option α
  | .ret a => some a
  | .fail => none
  | .tmp t k => match σ.tmp t with | some v => (k v).run σ | none => none
  | .cell b o k => match σ.cell b o with | some v => (k v).run σ | none => none
  | .cells b k => match σ.cells b with | some cs => (k cs).run σ | none => none
  | .fresh b k => match σ.cells b with | some _ => none | none => k.run σ
  | .part t i k => match σ.part t i with | some v => (k v).run σ | none => none
  | .ask b t f => match b with | true => t.run σ | false => f.run σ
def M.reads {α : Type} (σ : St) : M α → List Loc
  | .ret _ => []
  | .fail => []
  | .tmp t k => .tmp t :: match σ.tmp t with | some v => (k v).reads σ | none => []
  | .cell b o k => .cell b (some o) :: match σ.cell b o with | some v => (k v).reads σ | none => []
  | .cells b k => .cell b none :: match σ.cells b with | some cs => (k cs).reads σ | none => []
  | .fresh b k => .cell b none :: k.reads σ
  | .part t i k => .part t i :: match σ.part t i with | some v => (k v).reads σ | none => []
  | .ask _ t f => t.reads σ ++ f.reads σ

abbrev R := V × List (List V)
/-- What follows an operation, its questions outermost. -/
def M.runK {α β : Type} (σ : St) (K : α → Option β) : M α → Option β
  | .ret a => K a
  | .fail => none
  | .tmp t k => match σ.tmp t with | some v => (k v).runK σ K | none => none
  | .cell b o k => match σ.cell b o with | some v => (k v).runK σ K | none => none
  | .cells b k => match σ.cells b with | some cs => (k cs).runK σ K | none => none
  | .fresh b k => match σ.cells b with | some _ => none | none => k.runK σ K
  | .part t i k => match σ.part t i with | some v => (k v).runK σ K | none => none
  | .ask b t f => match b with | true => t.runK σ K | false => f.runK σ K
theorem M.runK_eq {α β : Type} {σ : St} {K : α → Option β} (m : M α) : m.runK σ K = (m.run σ).bind K := by
  induction m with
  | ret => rfl
  | fail => rfl
  | tmp t k ih => simp only [M.runK, M.run]; split <;> first | exact ih _ | rfl
  | cell b o k ih => simp only [M.runK, M.run]; split <;> first | exact ih _ | rfl
  | cells b k ih => simp only [M.runK, M.run]; split <;> first | exact ih _ | rfl
  | fresh b k ih => simp only [M.runK, M.run]; split <;> first | exact ih | rfl
  | part t i k ih => simp only [M.runK, M.run]; split <;> first | exact ih _ | rfl
  | ask b t f iht ihf => cases b <;> simp only [M.runK, M.run] <;> assumption
/-- What is known of a program. -/
structure Info where
  func : Nat → Option Func
  ext : Nat → Option (List V → List (List V) → Option R)
  pre : Nat → List V → List (List V) → Bool
  entry : Nat → Option (List V → Option Value)
  und : TypeId → Option TypeDesc
  size : TypeId → Option Nat
  zero : TypeId → Option (List V)
  cts : TypeId → Option (List CT)
  bytes : TypeId → Option Nat
  zval : TypeId → Option Value
  keep : Nat → Nat → Option (List Nat)
  eqOk : TypeId → Bool
  lenAt : String → Bool
  touch : Nat → Option (List Nat)

section
variable (I : Info)
abbrev Step := M (Bool × List W)
def opd (x : Operand) (k : V → Step) : Step :=
  match x with
  | .tmp t => .tmp t k
  | .const v => k (.val v)
  | .func f => k (.val (.func (.func f) #[] #[]))
  | .global _ => .fail
def dstW (d : Option Nat) (v : V) : List W := match d with | some t => [.tmp t (some v)] | none => []
/-- Is a temporary handed on within its region, so that the spare room goes with it? -/
def takes (ops : List Oper) (d : Option Nat) : Bool :=
  match d with
  | none => false
  | some t => ops.any fun o => match o.op with
    | .call { callee := .builtin .append, args, .. } => match args.toList with | .tmp s :: _ => s == t | _ => false
    | .call { callee := .value _, args, .. } => args.toList.any fun | .tmp s => s == t | _ => false
    | .assign (.tmp s) => s == t
    | .store _ _ (.tmp s) => s == t
    | .box _ (.tmp s) => s == t
    | _ => false
/-- .. out of a cell: not to be handed to a call. -/
def takesL (ops : List Oper) (d : Option Nat) : Bool :=
  match d with
  | none => false
  | some t => ops.any fun o => match o.op with
    | .call { callee := .builtin .append, args, .. } => match args.toList with | .tmp s :: _ => s == t | _ => false
    | .assign (.tmp s) => s == t
    | .store _ _ (.tmp s) => s == t
    | .box _ (.tmp s) => s == t
    | _ => false
/-- .. a slice of its own, to be appended to or to stand in a variable. -/
def takesU (ops : List Oper) (d : Option Nat) : Bool :=
  match d with
  | none => false
  | some t => ops.any fun o => match o.op with
    | .call { callee := .builtin .append, args, .. } => match args.toList with | .tmp s :: _ => s == t | _ => false
    | .assign (.tmp s) => s == t
    | _ => false
/-- Is a slice in a temporary written to within its region? -/
def writes (ops : List Oper) (d : Option Nat) : Bool :=
  match d with
  | none => false
  | some t => ops.any fun o => match o.op with
    | .call { callee := .builtin .copy, args, .. } => match args.toList with | .tmp s :: _ => s == t | _ => false
    | .indexAddr _ (.tmp s) _ => s == t && match o.dst with
      | some p => ops.any fun o' => match o'.op with
        | .store _ (.tmp q) _ => q == p
        | _ => false
      | none => false
    | _ => false
/-- Is it measured alone? -/
def usedLen (ops : List Oper) (d : Option Nat) : Bool :=
  match d with
  | none => false
  | some t => ops.any fun o => match o.op with
    | .call { callee := .builtin .len, args, .. } => match args.toList with | .tmp s :: _ => s == t | _ => false
    | _ => false
/-- A value goes from a temporary to where it is written: the spare room goes along. -/
def gone (x : Operand) (v : V) : List W :=
  match x, v with
  | .tmp s, .own c xs => [.tmp s (some (.arr c xs))]
  | .tmp s, .tup _ => [.tmp s none]
  | .tmp s, .uni _ _ => [.tmp s none]
  | _, _ => []
def isAggT (t : TypeId) : Option Bool := match I.und t with | some (.struct _) | some (.array _ _) => some true | some _ => some false | none => none
def pureRun : Sem Value → Option Value
  | .pure v => some v
  | _ => none
def binV (u : Option TypeDesc) (op : BinOp) (a b : Value) : Option (Bool × Value) :=
  match a, b with
  | .int k x, .int k' y =>
    match op with
    | .quo | .rem => if k = k' then
        match op with
        | .quo => some (decide (y ≠ 0), .int k (k.wrap (x.tdiv y)))
        | _ => some (decide (y ≠ 0), .int k (x.tmod y))
      else none
    | .shl => some (decide (0 ≤ y), .int k (k.wrap (x * 2 ^ (min y.toNat k.bits))))
    | .shr => some (decide (0 ≤ y), .int k (x.fdiv (2 ^ (min y.toNat k.bits))))
    | .and | .or | .xor | .andNot => if k = k' then (pureRun (Op.intBits op k x y)).map (true, ·) else none
    | .add | .sub | .mul => if k = k' then (pureRun (Op.intArith op k x y)).map (true, ·) else none
    | _ => if k = k' then (pureRun (Op.intCmp op x y)).map (true, ·) else none
  | .string s, .string t =>
    match op with
    | .add => some (decide ((s.size + t.size : Nat) ≤ 140737488351232), .string (s ++ t))
    | _ => (pureRun (Op.stringOp op s t)).map (true, ·)
  | .bool x, .bool y =>
    match u, op with
    | some .bool, .eql => some (true, .bool (x == y))
    | some .bool, .neq => some (true, .bool (!(x == y)))
    | _, _ => none
  | .slice none 0 0, .slice none 0 0 =>
    match u, op with
    | some (.slice _), .eql => some (true, .bool true)
    | some (.slice _), .neq => some (true, .bool false)
    | _, _ => none
  | _, _ => none
/-- Are two structs alike, part by part? -/
def eq1 : Option TypeDesc → Value → Value → Option Bool
  | some (.int _), .int k x, .int k' y => if k = k' then some (x == y) else none
  | some .string, .string s, .string t => some (s == t)
  | some .bool, .bool p, .bool q => some (p == q)
  | _, _, _ => none
def eqFs (a b : List V) : List Field → Option Bool
  | [] => some true
  | f :: fs => match f.name == "_", isAggT I f.type, a[f.offset]?, b[f.offset]?, eqFs a b fs with
    | false, some false, some (.val x), some (.val y), some r => (eq1 (I.und f.type) x y).map fun q => q && r
    | _, _, _, _, _ => none
/-- The numbers of a row of numbers. -/
def intsK (k : IntKind) : List V → Option (List Int)
  | [] => some []
  | .val (.int k' n) :: r => if k = k' then (intsK k r).map (n :: ·) else none
  | _ => none
def intsOf : List V → Option (IntKind × List Int)
  | .val (.int k n) :: r => (intsK k r).map fun l => (k, n :: l)
  | _ => none
/-- A slice that has elements, against nil. -/
def nilCmp (u : Option TypeDesc) (op : BinOp) (n : Nat) : Option (Bool × Value) :=
  match u, op with
  | some (.slice _), .eql => some (decide (0 < n), .bool false)
  | some (.slice _), .neq => some (decide (0 < n), .bool true)
  | _, _ => none
def getRow : V → Option (List CT × List (List D))
  | .arr c xs => some (c, xs)
  | .own c xs => some (c, xs)
  | _ => none
/-- What is appended, as rows. -/
def rowsOf (cts : List CT) : V → Option (List (List D))
  | .arr c xs => if sameCTs c cts then some xs else none
  | .own c xs => if sameCTs c cts then some xs else none
  | .val (.slice none 0 0) => some []
  | .val (.slice (some _) 0 _) => some []
  | .val (.string s) => if sameCTs cts [.int .u8] then some (bytesRow s) else none
  | _ => none
def loadV (k : Key) (off : Nat) (f : List V → Step) : Nat → List V → Step
  | 0, acc => f acc.reverse
  | n + 1, acc => .cell k off fun v => loadV k (off + 1) f n (v.view :: acc)
def cellsW (k : Key) (off : Nat) : List V → List W
  | [] => []
  | v :: vs => .cell k off v.view :: cellsW k (off + 1) vs
def checkV (k : Key) (off : Nat) (f : Step) : Nat → Step
  | 0 => f
  | n + 1 => .cell k off fun _ => checkV k (off + 1) f n
def oneC : Value → Bool
  | .agg _ => false
  | .tuple _ => false
  | _ => true
/-- May a value be a cell of a box? -/
def cellOk : V → Bool
  | .val v => oneC v
  | .arr _ _ | .own _ _ => true
  | _ => false
def V.isPtr : V → Bool
  | .ptr _ _ => true
  | _ => false
/-- May a value be a cell of a box that is not handed on? -/
def cellOkP (v : V) : Bool := cellOk v || v.isPtr
def rowV (e : List D) (j : Nat) : List CT → List V
  | [] => []
  | c :: cs => c.force (e.getD j default) :: rowV e (j + 1) cs
def fillV (cs : List V) (off : Nat) : List V → List V
  | [] => cs
  | v :: vs => fillV (cs.set off v.view) (off + 1) vs
def partsV (place : Nat → Option (Nat × Nat)) : List (Nat × Operand) → List V → (List V → Step) → Step
  | [], cs, f => f cs
  | (i, x) :: r, cs, f => opd x fun v =>
    match place i, v with
    | some (off, n), .agg vs => if vs.length = n ∧ off + n ≤ cs.length then partsV place r (fillV cs off vs) f else .fail
    | some (off, n), v => if n = 1 ∧ cellOkP v ∧ off + n ≤ cs.length then partsV place r (cs.set off v.view) f else .fail
    | none, _ => .fail
def zerosV (zs : List V) (sz n : Nat) : List V := (List.range (n * sz)).map fun i => zs.getD (i % sz) default
def chunk (n : Nat) : Nat → List V → List (List V)
  | 0, _ => []
  | k + 1, l => l.take n :: chunk n k (l.drop n)
def tellRows (cts : List CT) : List (List V) → Option (List (List D))
  | [] => some []
  | r :: rs => match tellAll cts r, tellRows cts rs with | some e, some es => some (e :: es) | _, _ => none
def intOr (d : Int) : Option V → Option Int
  | none => some d
  | some (.val (.int _ n)) => some n
  | _ => none
def optOpd (x : Option Operand) (k : Option V → Step) : Step := match x with | none => k none | some x => opd x fun v => k (some v)
def cut {α : Type} (xs : List α) (lo hi : Int) : List α := (xs.drop lo.toNat).take (hi.toNat - lo.toNat)
def okBounds (lo hi n : Int) : Bool := decide (0 ≤ lo) && decide (lo ≤ hi) && decide (hi ≤ n)

def keyIs : CT → Value → D → Bool
  | .int _, .int _ n, d => n == d.toInt
  | .str, .string s, d => s == d.toStr
  | _, _, _ => false
def keyFits (u : Option TypeDesc) (kc : CT) (k : Value) : Bool :=
  match u, kc, k with
  | some (.int k), .int k', .int k'' _ => decide (k' = k'') && decide (k'' = k)
  | some .string, .str, .string _ => true
  | _, _, _ => false
def findRow (kc : CT) (k : Value) : List (List D) → Option (List D)
  | [] => none
  | e :: es => if keyIs kc k (e.getD 0 default) then some e else findRow kc k es
def lookD (kc : CT) (k : Value) (zd : D) (rows : List (List D)) : D := match findRow kc k rows with | some e => e.getD 1 default | none => zd
def hasD (kc : CT) (k : Value) (rows : List (List D)) : Bool := (findRow kc k rows).isSome
def setRow (kc : CT) (k : Value) (n : List D) : List (List D) → List (List D)
  | [] => [n]
  | e :: es => if keyIs kc k (e.getD 0 default) then n :: es else e :: setRow kc k n es
def mkV : Bool → List CT → List (List D) → V
  | true, c, xs => .uni c xs
  | false, c, xs => .own c xs
/-- What is appended: rows, or so many zero ones. -/
def srcRows (d2 : TypeDesc) (cts : List CT) (zs : List V) (u : V) : Option (List (List D)) :=
  match d2 with
  | .int _ => match u with
    | .val (.int _ n) => if 0 ≤ n ∧ n ≤ 70368744177664 then (tellAll cts zs).map (List.replicate n.toNat) else none
    | _ => none
  | _ => rowsOf cts u
def updM (o : Oper) (t : TypeId) (m k x : Operand) : Step :=
  opd m fun m => opd k fun kv => opd x fun xv => match I.und t, m, kv with
    | some (.map kt _), .mp b false, .val kv => .cells (.mp b) fun
      | [.arr [kc, vc] rows] => match keyFits (I.und kt) kc kv, kc.tell (.val kv), vc.tell xv with
        | true, some kd, some xd => .ret (true, [.box (.mp b) [.arr [kc, vc] (setRow kc kv [kd, xd] rows)]])
        | _, _, _ => .fail
      | _ => .fail
    | _, _, _ => .fail
/-- Are two numbers one? -/
def sameOpd : Operand → Operand → Int → Int → Bool
  | .tmp a, .tmp b, n, c => match a == b with | true => true | false => decide (n = c)
  | _, _, n, c => decide (n = c)
/-- Is it a slice without room, as the text tells? -/
def zero3 : Option Operand → Option Operand → Option Operand → Bool
  | none, some (.const (.int _ n)), some (.const (.int _ m)) => n == 0 && m == 0
  | _, _, _ => false
def sl3 (z : Bool) (c : List CT) (xs : List (List D)) : V := match z with | true => .own c [] | false => .arr c xs
/-- A row of which one cell is written. -/
def putD (n j : Nat) (d : D) (e : List D) : List D := (List.range n).map fun q => if q = j then d else e.getD q default
def placesV : List Field → Option (List (Nat × Nat))
  | [] => some []
  | f :: fs => match I.size f.type, placesV fs with | some n, some l => some ((f.offset, n) :: l) | _, _ => none
def opM (ops : List Oper) (o : Oper) : Step :=
  match o.op with
  | .move x => opd x fun v => match v with
    | .own _ _ => if takes ops o.dst then .ret (true, gone x v ++ dstW o.dst v) else .ret (true, dstW o.dst v.view)
    | .uni c xs => match takesU ops o.dst with
      | true => .ret (true, gone x v ++ dstW o.dst v)
      | false => match takes ops o.dst, x with
        | true, .tmp s => .ret (true, .tmp s (some (.arr c xs)) :: dstW o.dst (.own c xs))
        | _, .tmp s => match writes ops o.dst, (usedLen ops o.dst && I.lenAt o.pos) with
          | true, _ => .fresh (.mp s) (.ret (decide (0 < xs.length), .box (.mp s) [.arr c xs, .val undef] :: .tmp s (some (.ms s c 0 xs.length)) :: dstW o.dst (.ms s c 0 xs.length)))
          | false, true => .ret (true, dstW o.dst v.view)
          | false, false => .ret (true, .tmp s (some (.own c xs)) :: dstW o.dst (.arr c xs))
        | _, _ => .fail
    | v => .ret (true, gone x v ++ dstW o.dst v)
  | .assign x => opd x fun v => .ret (true, gone x v ++ dstW o.dst v)
  | .pick c a b => opd c fun
    | .val (.bool true) => opd a fun v => match v with | .tup _ => .fail | v => .ret (true, dstW o.dst v.view)
    | .val (.bool false) => opd b fun v => match v with | .tup _ => .fail | v => .ret (true, dstW o.dst v.view)
    | _ => .fail
  | .extract x ix => match x with
    | .tmp s => .part s ix fun
      | .own c xs => .ret (true, .part s ix (.arr c xs) :: dstW o.dst (.own c xs))
      | .uni c xs => match takesU ops o.dst with
        | true => .ret (true, .part s ix (.slen xs.length) :: dstW o.dst (.uni c xs))
        | false => .ret (true, .part s ix (.slen xs.length) :: dstW o.dst (.own c xs))
      | v => .ret (true, dstW o.dst v)
    | _ => .fail
  | .binOp op t x y _ => opd x fun a => opd y fun b => match a, b with
    | .val (.slice (some _) _ _), .val (.slice none 0 0) => match nilCmp (I.und t) op 1 with
      | some (ok, v) => .ret (ok, dstW o.dst (.val v))
      | none => .fail
    | .val a, .val b => match binV (I.und t) op a b with
      | some (ok, v) => .ret (ok, dstW o.dst (.val v))
      | none => .fail
    | .arr _ xs, .val (.slice none 0 0) => match nilCmp (I.und t) op xs.length with
      | some (ok, v) => .ret (ok, dstW o.dst (.val v))
      | none => .fail
    | .own _ xs, .val (.slice none 0 0) => match nilCmp (I.und t) op xs.length with
      | some (ok, v) => .ret (ok, dstW o.dst (.val v))
      | none => .fail
    | .agg xs, .agg ys => match I.und t, I.eqOk t, op with
      | some (.struct fs), true, .eql => match eqFs I xs ys fs.toList with
        | some r => .ret (true, dstW o.dst (.val (.bool r)))
        | none => .fail
      | some (.struct fs), true, .neq => match eqFs I xs ys fs.toList with
        | some r => .ret (true, dstW o.dst (.val (.bool (!r))))
        | none => .fail
      | _, _, _ => .fail
    | _, _ => .fail
  | .unOp op _ x => opd x fun
    | .val a => match pureRun (Op.unary op a) with
      | some v => .ret (true, dstW o.dst (.val v))
      | none => .fail
    | _ => .fail
  | .convert s t x => opd x fun v => match I.und s, I.und t, v with
    | some (.int _), some (.int k), .val (.int _ n) => .ret (true, dstW o.dst (.val (.int k (k.wrap n))))
    | some .string, some .string, .val (.string b) => .ret (true, dstW o.dst (.val (.string b)))
    | some (.slice e), some (.slice _), v => match I.und e, x, v with
      | some (.int .u8), .tmp s0, .own c xs => if s = t ∧ 0 < xs.length then .ret (true, .tmp s0 (some (.arr c xs)) :: dstW o.dst (.own c xs)) else .fail
      | _, _, _ => .fail
    | some (.slice e), some .string, v => match I.und e, v with
      | some (.int .u8), .val (.slice none 0 0) => .ret (true, dstW o.dst (.val (.string .empty)))
      | some (.int .u8), .arr c xs => if sameCTs c [.int .u8] then .ret (true, dstW o.dst (.val (.string (rowBytes xs)))) else .fail
      | some (.int .u8), .own c xs => if sameCTs c [.int .u8] then .ret (true, dstW o.dst (.val (.string (rowBytes xs)))) else .fail
      | _, _ => .fail
    | _, _, _ => .fail
  | .nilCheck x => opd x fun v => match v with
    | .ptr _ _ | .eptr _ _ _ _ | .mptr _ _ _ _ | .sptr _ _ _ => .ret (true, dstW o.dst v)
    | _ => .fail
  | .fieldAddr s x f => opd x fun v => match I.und s with
    | some (.struct fs) => match fs[f]? with
      | some fd => match I.size fd.type, v with
        | some (_ + 1), .ptr k off => .ret (true, dstW o.dst (.ptr k (off + fd.offset)))
        | some (_ + 1), .eptr c xs i j => .ret (true, dstW o.dst (.eptr c xs i (j + fd.offset)))
        | some (_ + 1), .mptr t c i j => .ret (true, dstW o.dst (.mptr t c i (j + fd.offset)))
        | _, _ => .fail
      | none => .fail
    | _ => .fail
  | .indexAddr t x0 i => opd x0 fun v => opd i fun i => match I.und t, v, i with
    | some (.slice e), .arr c xs, .val (.int _ i) => if I.size e = some c.length then .ret (decide (0 ≤ i) && decide (i < xs.length), dstW o.dst (.eptr c xs i.toNat 0)) else .fail
    | some (.slice e), .own c xs, .val (.int _ i) => if I.size e = some c.length then .ret (decide (0 ≤ i) && decide (i < xs.length), dstW o.dst (.eptr c xs i.toNat 0)) else .fail
    | some (.array n e), .ptr k off, .val (.int _ i) => match I.size e with
      | some sz => .ret (decide (0 ≤ i) && decide (i < n), dstW o.dst (.ptr k (off + i.toNat * sz)))
      | none => .fail
    | some (.slice e), .uni c xs, .val (.int _ i) => match x0 with
      | .tmp s => if I.size e = some c.length then .ret (decide (0 ≤ i) && decide (i < xs.length), .tmp s (some (.own c xs)) :: dstW o.dst (.eptr c xs i.toNat 0)) else .fail
      | _ => .fail
    | some (.slice e), .sarr n rows, .val (.int _ i) => if I.size e = some n then .ret (decide (0 ≤ i) && decide (i < rows.length), dstW o.dst (.sptr n rows i.toNat)) else .fail
    | some (.slice e), .ms t c off len, .val (.int _ i) => if I.size e = some c.length then .ret (decide (0 ≤ i) && decide (i < len), dstW o.dst (.mptr t c (off + i.toNat) 0)) else .fail
    | _, _, _ => .fail
  | .load t a => opd a fun v => match isAggT I t, I.size t, v with
    | some true, some n, .ptr k off => loadV k off (fun vs => .ret (true, dstW o.dst (.agg vs))) n []
    | some false, some 1, .ptr k off => .cell k off fun v => match v with
      | .own c xs => if takesL ops o.dst then .ret (true, .cell k off (.arr c xs) :: dstW o.dst (.own c xs)) else .ret (true, dstW o.dst (.arr c xs))
      | v => .ret (true, dstW o.dst v)
    | some true, some n, .eptr c xs i j => if j + n ≤ c.length then .ret (true, dstW o.dst (.agg (rowV (xs.getD i []) j ((c.drop j).take n)))) else .fail
    | some false, some 1, .eptr c xs i j => match c[j]? with
      | some ct => .ret (true, dstW o.dst (ct.force ((xs.getD i []).getD j default)))
      | none => .fail
    | some true, some m, .sptr n rows i => match rows[i]? with
      | some r => if m = n then .ret (true, dstW o.dst (.agg r)) else .fail
      | none => .fail
    | some ag, some n, .mptr t c i j => .cells (.mp t) fun
      | [.arr c' xs, .val _] => if sameCTs c c' then match ag, n with
        | true, n => if j + n ≤ c.length then .ret (true, dstW o.dst (.agg (rowV (xs.getD i []) j ((c.drop j).take n)))) else .fail
        | false, 1 => match c[j]? with
          | some ct => .ret (true, dstW o.dst (ct.force ((xs.getD i []).getD j default)))
          | none => .fail
        | _, _ => .fail
        else .fail
      | _ => .fail
    | _, _, _ => .fail
  | .store t a x => opd a fun p => opd x fun v => match isAggT I t, I.size t, p, v with
    | some true, some n, .ptr k off, .agg vs => if vs.length = n ∧ vs.all cellOkP then checkV k off (.ret (true, cellsW k off vs)) n else .fail
    | some false, some 1, .ptr k off, v => if cellOkP v then .cell k off fun _ => .ret (true, gone x v ++ [.cell k off v]) else .fail
    | some false, some 1, .mptr t c i j, v => .cells (.mp t) fun
      | [.arr c' xs, .val u] => if sameCTs c c' then match c[j]? with
        | some ct => match ct.tell v with
          | some d => .ret (true, [.box (.mp t) [.arr c' (xs.set i (putD c.length j d (xs.getD i []))), .val u]])
          | none => .fail
        | none => .fail
        else .fail
      | _ => .fail
    | _, _, _, _ => .fail
  | .alloc t => match o.dst, I.zero t with
    | some d, some cs => .fresh (.loc d) (.ret (true, [.box (.loc d) cs, .tmp d (some (.ptr (.loc d) 0))]))
    | _, _ => .fail
  | .box t x => opd x fun v => match o.dst, isAggT I t, v with
    | some d, some true, .agg vs => if I.size t = some vs.length ∧ vs.all cellOkP then .fresh (.loc d) (.ret (true, [.box (.loc d) (vs.map V.view), .tmp d (some (.ptr (.loc d) 0))])) else .fail
    | some d, some false, v => if cellOkP v then .fresh (.loc d) (.ret (true, gone x v ++ [.box (.loc d) [v], .tmp d (some (.ptr (.loc d) 0))])) else .fail
    | _, _, _ => .fail
  | .build t ps => match I.und t, I.zero t with
    | some (.struct fs), some zs => match placesV I fs.toList with
      | some pl => partsV (fun i => pl[i]?) ps.toList zs fun cs => .ret (true, dstW o.dst (.agg cs))
      | none => .fail
    | some (.array _ e), some zs => match I.size e with
      | some sz => partsV (fun i => some (i * sz, sz)) ps.toList zs fun cs => .ret (true, dstW o.dst (.agg cs))
      | none => .fail
    | _, _ => .fail
  | .buildSlice t n ps => match I.und t with
    | some (.slice e) => match I.size e, I.zero e, I.cts e with
      | some sz, some zs, none => if n * sz ≤ 4096 ∧ 0 < sz ∧ zs.length = sz then partsV (fun i => some (i * sz, sz)) ps.toList (zerosV zs sz n) fun cs => if cs.length = n * sz then .ret (true, dstW o.dst (.sarr sz (chunk sz n cs))) else .fail
        else .fail
      | some sz, some zs, some cts => if n * sz ≤ 4096 ∧ 0 < sz ∧ zs.length = sz ∧ cts.length = sz then partsV (fun i => some (i * sz, sz)) ps.toList (zerosV zs sz n) fun cs =>
          match tellRows cts (chunk sz n cs) with
          | some rows => .ret (true, dstW o.dst (.own cts rows))
          | none => .fail
        else .fail
      | _, _, _ => .fail
    | _ => .fail
  | .makeMap t none => match I.und t, o.dst with
    | some (.map kt et), some d => match I.cts kt, I.cts et with
      | some [kc], some [vc] => .fresh (.mp d) (.ret (true, [.box (.mp d) [.arr [kc, vc] []], .tmp d (some (.mp d false))]))
      | _, _ => .fail
    | _, _ => .fail
  | .range t x => opd x fun v => match I.und t, v, o.dst with
    | some .string, .val (.string s), some d => .fresh (.mp d) (.ret (true, [.box (.mp d) [.val (.string s), .val (.int .i64 (0 : Nat))], .tmp d (some (.mp d true))]))
    | _, _, _ => .fail
  | .next x isS => opd x fun v => match v, isS with
    | .mp b true, true => .cells (.mp b) fun
      | [.val (.string s), .val (.int .i64 (.ofNat p))] =>
        .ask (decide (p < s.size)) (.ret (true, .box (.mp b) [.val (.string s), .val (.int .i64 ((p + (Utf8.decode s p).2 : Nat) : Int))] :: dstW o.dst (.tup [.val (.bool true), .val (.int .i64 (p : Int)), .val (.int .i32 ((Utf8.decode s p).1 : Int))])))
          (.ret (true, dstW o.dst (.tup [.val (.bool false)])))
      | _ => .fail
    | _, _ => .fail
  | .insert t m k x => updM I o t m k x
  | .mapUpdate t m k x => updM I o t m k x
  | .lookup t m k ok => opd m fun m => opd k fun kv => match I.und t, m, kv with
    | some (.map kt et), .mp b false, .val kv => .cells (.mp b) fun
      | [.arr [kc, vc] rows] => match keyFits (I.und kt) kc kv, I.zval et with
        | true, some z => match vc.tell (.val z) with
          | some zd => .ret (true, dstW o.dst (if ok then .tup [vc.force (lookD kc kv zd rows), .val (.bool (hasD kc kv rows))] else vc.force (lookD kc kv zd rows)))
          | none => .fail
        | _, _ => .fail
      | _ => .fail
    | _, _, _ => .fail
  | .makeSlice t nx cx => opd nx fun nv => opd cx fun cv => match I.und t, nv, cv with
    | some (.slice e), .val (.int _ n), .val (.int _ c) => match I.zero e, I.cts e, I.bytes e with
      | some zs, some cts, some b => if zs.length = cts.length ∧ 0 < cts.length then
          match tellAll cts zs with
          | some row => .ret (sameOpd nx cx n c && decide (0 ≤ n) && decide (n * b ≤ 140737488351232) && decide (n ≤ 140737488351232), dstW o.dst (mkV (takesU ops o.dst) cts (List.replicate n.toNat row)))
          | none => .fail
          else .fail
      | _, _, _ => .fail
    | _, _, _ => .fail
  | .slice t x lo0 hi0 mx => opd x fun v => optOpd lo0 fun lo => optOpd hi0 fun hi => match mx, I.und t, v with
    | none, some .string, .val (.string s) => match intOr 0 lo, intOr s.size hi with
      | some l, some h => .ret (okBounds l h s.size, dstW o.dst (.val (.string (s.extract l.toNat h.toNat))))
      | _, _ => .fail
    | none, some (.slice e), .arr c xs => match intOr 0 lo, intOr xs.length hi with
      | some l, some h => if I.size e = some c.length then .ret (okBounds l h xs.length, dstW o.dst (.arr c (cut xs l h))) else .fail
      | _, _ => .fail
    | none, some (.slice e), .own c xs => match intOr 0 lo, intOr xs.length hi with
      | some l, some h => if I.size e = some c.length then .ret (okBounds l h xs.length, dstW o.dst (.arr c (cut xs l h))) else .fail
      | _, _ => .fail
    | none, some (.slice e), .ms b c off len => match intOr 0 lo, intOr len hi with
      | some l, some h => if I.size e = some c.length then .ret (okBounds l h len && decide (l < len), dstW o.dst (.ms b c (off + l.toNat) (h.toNat - l.toNat))) else .fail
      | _, _ => .fail
    | some m, some (.slice e), .arr c xs => opd m fun m => match intOr 0 lo, hi, m with
      | some l, some (.val (.int _ h)), .val (.int _ m) => if I.size e = some c.length then .ret (okBounds l h m && decide (m ≤ xs.length), dstW o.dst (sl3 (zero3 lo0 hi0 mx) c (cut xs l h))) else .fail
      | _, _, _ => .fail
    | _, _, _ => .fail
  | .field t x f => opd x fun v => match I.und t, v with
    | some (.struct fs), .agg vs => match fs[f]? with
      | some fd => match isAggT I fd.type, I.size fd.type with
        | some true, some n => .ret (true, dstW o.dst (.agg ((vs.drop fd.offset).take n)))
        | some false, _ => match vs[fd.offset]? with
          | some v => .ret (true, dstW o.dst v.view)
          | none => .fail
        | _, _ => .fail
      | none => .fail
    | _, _ => .fail
  | .index t x i => opd x fun v => opd i fun i => match I.und t, v, i with
    | some .string, .val (.string s), .val (.int _ i) => .ret (decide (0 ≤ i) && decide (i < s.size), dstW o.dst (.val (.int .u8 (byteAt s i))))
    | some (.array n e), .agg vs, .val (.int _ i) => match isAggT I e, I.size e with
      | some false, some 1 => match intsOf vs with
        | some (k, ns) => if n = ns.length then .ret (decide (0 ≤ i) && decide (i < n), dstW o.dst (.val (.int k (ns.getD i.toNat 0)))) else .fail
        | none => match vs[i.toNat]? with
          | some v => .ret (decide (0 ≤ i) && decide (i < n), dstW o.dst v.view)
          | none => .fail
      | some true, some sz => if vs.length = n * sz then .ret (decide (0 ≤ i) && decide (i < n), dstW o.dst (.agg ((vs.drop (i.toNat * sz)).take sz))) else .fail
      | _, _ => .fail
    | _, _, _ => .fail
  | .call { callee := .builtin .len, args, argTypes } => match args.toList with
    | [x] => match argTypes[0]? with
      | some t => opd x fun v => match I.und t with
        | some .string => match v with
          | .val (.string s) => .ret (true, dstW o.dst (.val (.int .i64 s.size)))
          | _ => .fail
        | some (.slice _) => match v with
          | .arr _ xs => .ret (true, dstW o.dst (.val (.int .i64 xs.length)))
          | .own _ xs => .ret (true, dstW o.dst (.val (.int .i64 xs.length)))
          | .uni _ xs => .ret (true, dstW o.dst (.val (.int .i64 xs.length)))
          | .slen n => .ret (true, dstW o.dst (.val (.int .i64 n)))
          | .ms _ _ _ n => .ret (true, dstW o.dst (.val (.int .i64 n)))
          | .sarr _ rows => .ret (true, dstW o.dst (.val (.int .i64 rows.length)))
          | .val (.slice none 0 0) => .ret (true, dstW o.dst (.val (.int .i64 (0 : Nat))))
          | _ => .fail
        | _ => .fail
      | none => .fail
    | _ => .fail
  | .call { callee := .builtin .append, args, argTypes } => match args.toList, argTypes.toList with
    | [s, x], [t, t2] => match I.und t, I.und t2 with
      | some (.slice e), some d2 => match I.cts e, I.bytes e, (match d2 with | .slice _ => true | .string => true | .int _ => true | _ => false) with
        | some cts, some b, true => if (match I.zero e with | some zs => decide (zs.length = cts.length) | none => false) && decide (0 < cts.length) then opd s fun v => opd x fun u => match srcRows d2 cts ((I.zero e).getD []) u with
          | some ys => match s, v with
            | _, .val (.slice none 0 0) => if True then .ret (decide (ys.length * b ≤ 70368744177664) && decide (ys.length ≤ 70368744177664), dstW o.dst (.own cts ys)) else .fail
            | .tmp d, .uni c xs => if sameCTs c cts then .ret (decide ((xs.length + ys.length) * b ≤ 70368744177664) && decide (xs.length + ys.length ≤ 70368744177664), .tmp d none :: dstW o.dst (.uni c (xs ++ ys))) else .fail
            | .tmp d, .own c xs => if sameCTs c cts then .ret (decide ((xs.length + ys.length) * b ≤ 70368744177664) && decide (xs.length + ys.length ≤ 70368744177664), .tmp d (some (.arr c xs)) :: dstW o.dst (.own c (xs ++ ys))) else .fail
            | _, _ => .fail
          | none => .fail
          else .fail
        | _, _, _ => .fail
      | _, _ => .fail
    | _, _ => .fail
  | .call { callee := .builtin .copy, args, argTypes } => match args.toList, argTypes.toList with
    | [t, x], [tt, _] => match I.und tt with
      | some (.slice e) => match I.size e with
        | some 1 => opd t fun tv => opd x fun xv => match tv, getRow xv with
          | .ms b c off len, some (c', ys) => if sameCTs c c' ∧ c.length = 1 then .cells (.mp b) fun
            | [.arr c2 xs, .val u] => if sameCTs c c2 then .ret (true, .box (.mp b) [.arr c2 (xs.take off ++ (ys.take len ++ xs.drop (off + min ys.length len))), .val u] :: dstW o.dst (.val (.int .i64 (min ys.length len : Nat)))) else .fail
            | _ => .fail
            else .fail
          | .ms b c off len, none => match xv with
            | .ms b' c' off' len' => if b' = b ∧ sameCTs c c' ∧ c.length = 1 then .cells (.mp b) fun
              | [.arr c2 xs, .val u] => if sameCTs c c2 then .ret (true, .box (.mp b) [.arr c2 (xs.take off ++ (((xs.drop off').take len').take len ++ xs.drop (off + min ((xs.drop off').take len').length len))), .val u] :: dstW o.dst (.val (.int .i64 (min ((xs.drop off').take len').length len : Nat)))) else .fail
              | _ => .fail
              else .fail
            | _ => .fail
          | _, _ => .fail
        | _ => .fail
      | _ => .fail
    | _, _ => .fail
  | .call { callee := .builtin .min, args, .. } => match args.toList with
    | [x, y] => opd x fun a => opd y fun b => match a, b with
      | .val (.int k x), .val (.int k' y) => if k = k' then .ret (true, dstW o.dst (.val (.int k (if y < x then y else x)))) else .fail
      | _, _ => .fail
    | _ => .fail
  | .call { callee := .builtin .max, args, .. } => match args.toList with
    | [x, y] => opd x fun a => opd y fun b => match a, b with
      | .val (.int k x), .val (.int k' y) => if k = k' then .ret (true, dstW o.dst (.val (.int k (if x < y then y else x)))) else .fail
      | _, _ => .fail
    | _ => .fail
  | _ => .fail

/-! ### 4. Calls of Go functions -/
/-- Which boxes are handed on, and the arguments as the callee sees them. -/
def keysOf : List V → List Key → List Key
  | [], ks => ks
  | .ptr k _ :: r, ks => keysOf r (if k ∈ ks then ks else ks ++ [k])
  | _ :: r, ks => keysOf r ks
def handed (ks : List Key) : V → V
  | .ptr k off => .ptr (.out (ks.idxOf k)) off
  | v => v
def argOk : V → Bool
  | .val _ | .arr _ _ | .own _ _ | .ptr _ _ => true
  | .agg vs => vs.all cellOk
  | _ => false
def opds (xs : List Operand) (acc : List V) (k : List V → M (Nat × List V × List Key × List (List V) × List W)) : M (Nat × List V × List Key × List (List V) × List W) :=
  match xs with
  | [] => k acc.reverse
  | .tmp t :: r => .tmp t fun v => opds r (v :: acc) k
  | .const v :: r => opds r (.val v :: acc) k
  | .func f :: r => opds r (.val (.func (.func f) #[] #[]) :: acc) k
  | .global _ :: _ => .fail
def allCells (ks : List Key) (acc : List (List V)) (k : List (List V) → M (Nat × List V × List Key × List (List V) × List W)) : M (Nat × List V × List Key × List (List V) × List W) :=
  match ks with
  | [] => k acc.reverse
  | b :: r => .cells b fun cs => allCells r (cs :: acc) k
/-- A result as the caller sees it. -/
def backC (ks : List Key) : V → V
  | .ptr (.out i) off => match ks[i]? with | some k => .ptr k off | none => .ptr (.out i) off
  | v => v
def backV (ks : List Key) : V → V
  | .sarr n rows => .sarr n (rows.map fun r => r.map (backC ks))
  | v => v
def goneAll : List Operand → List V → List W
  | x :: xs, v :: vs => gone x v ++ goneAll xs vs
  | _, _ => []
def ownTmps : List Operand → List V → List Nat
  | .tmp t :: xs, .own _ _ :: vs => t :: ownTmps xs vs
  | _ :: xs, _ :: vs => ownTmps xs vs
  | _, _ => []
def callM (f : Nat) (xs : List Operand) : M (Nat × List V × List Key × List (List V) × List W) :=
  opds xs [] fun vs => if vs.all argOk ∧ (ownTmps xs vs).Nodup then allCells (keysOf vs []) [] fun outs => if outs.all (·.all cellOk) then .ret (f, vs.map (handed (keysOf vs [])), keysOf vs [], outs, goneAll xs vs) else .fail else .fail
def boxW : List Key → List (List V) → List W
  | k :: ks, c :: cs => .box k c :: boxW ks cs
  | _, _ => []
/-- .. where a contract tells which cells of its one box may change. -/
def touchW (l : Option (List Nat)) (ks : List Key) (outs new : List (List V)) : List W :=
  match l, ks, outs, new with
  | some l, [k], [_], [cs] => l.filterMap fun i => (cs[i]?).map (W.cell k i)
  | _, _, _, _ => boxW ks new

/-! ### 5. Code -/
inductive T where
  | code (c : Code)
  | blk (id : Nat)
  | lp (c : Code)
  | scp (c : Code)
  | ops (id : Nat) (ops : List Oper) (rest : List Nat) (fp : Option (List (Nat × List Loc × List Loc)))
def exitT (id : Nat) : List T → Option (List T)
  | .blk id' :: k => if id' == id then some k else exitT id k
  | _ :: k => exitT id k
  | [] => none
def Loc.meets : Loc → Loc → Bool
  | .tmp t, .tmp u => t == u
  | .cell k none, .cell l _ => decide (k = l)
  | .cell k _, .cell l none => decide (k = l)
  | .cell k (some o), .cell l (some p) => decide (k = l) && o == p
  | .part t i, .part u j => t == u && i == j
  | .part t _, .tmp u => t == u
  | .tmp t, .part u _ => t == u
  | _, _ => false
def meetAny (xs ys : List Loc) : Bool := xs.any fun x => ys.any x.meets
/-- Which operations are ahead of one, in every order that there is. -/
def aheadOf (ops : List Oper) : Nat → Nat → List Nat
  | 0, _ => []
  | n + 1, j => match ops[j]? with
    | some o => (o.after.toList.filter (Region.binds .any)).flatMap fun e => e.on :: aheadOf ops n e.on
    | none => []
def edgesOk (ops : List Oper) : Bool := (List.range ops.length).all fun j => match ops[j]? with | some o => o.after.toList.all fun e => !(Region.binds .any e) || decide (e.on < j) | none => true
def fpOk (ops : List Oper) (fp : List (Nat × List Loc × List Loc)) : Bool :=
  edgesOk ops && fp.all fun (j, rj, wj) => fp.all fun (i, ri, wi) => !(decide (i < j)) || !(meetAny wi rj || meetAny wi wj || meetAny wj ri) || (aheadOf ops ops.length j).contains i
def V.namesC (k : Key) : V → Bool
  | .ptr k' _ => decide (k' = k.base)
  | _ => false
def V.names1 (k : Key) : V → Bool
  | .ptr k' _ => decide (k' = k.base)
  | .mp t _ => decide (k.base = .mp t)
  | .ms t _ _ _ => decide (k.base = .mp t)
  | .mptr t _ _ _ => decide (k.base = .mp t)
  | .agg vs => vs.any (V.namesC k)
  | .sarr _ rows => rows.any fun r => r.any (V.namesC k)
  | .sptr _ rows _ => rows.any fun r => r.any (V.namesC k)
  | _ => false
def V.names (k : Key) : V → Bool
  | .tup vs => vs.any (V.names1 k)
  | v => v.names1 k
def St.kept (σ : St) (ts : List Nat) : St :=
  let env := ts.filterMap fun t => (σ.tmp t).map fun v => (t, v)
  { env, box := σ.box.filter fun b => (match b.1 with | .out _ => true | _ => false) || (env.any fun e => e.2.names b.1) || σ.box.any fun c => c.2.any (V.namesC b.1) }
def St.keep (σ : St) (ts : Option (List Nat)) : St := match ts with | some ts => σ.kept ts | none => σ
def St.known (σ : St) (x : Operand) (b : Bool) : St := match x with | .tmp t => { σ with env := setA σ.env t (.val (.bool b)) } | _ => σ
def St.opd (σ : St) : Operand → Option V
  | .tmp t => σ.tmp t
  | .const v => some (.val v)
  | _ => none
def V.outPtr (no : Nat) : V → Bool
  | .ptr (.out i) _ => decide (i < no)
  | _ => false
def V.noS : V → Bool
  | .sarr _ _ => false
  | _ => true
def retOk (no : Nat) : V → Bool
  | .val _ | .arr _ _ | .own _ _ | .uni _ _ => true
  | .agg vs => vs.all cellOk
  | .sarr _ rows => rows.all fun r => r.all fun v => cellOk v || v.outPtr no
  | _ => false
/-- A slice that was written in place is written no more. -/
def frz (σ : St) : V → Option V
  | .ms t' c 0 len => match σ.cells (.mp t') with
    | some [.arr c' rows, .val _] => if sameCTs c c' then some (.uni c (rows.take len)) else none
    | _ => none
  | .ms _ _ (_ + 1) _ => none
  | v => some v
def resV (σ : St) : ResultVar → Option V
  | .tmp t => (σ.tmp t).bind (frz σ)
  | .cell a t => match σ.tmp a, isAggT I t, I.size t with
    | some (.ptr k off), some true, some n => match σ.cells k with
      | some cs => if off + n ≤ cs.length then some (.agg (((cs.drop off).take n).map V.view)) else none
      | none => none
    | some (.ptr k off), some false, some 1 => (σ.cell k off).map V.view
    | _, _, _ => none
def resVs (σ : St) : List ResultVar → Option (List V)
  | [] => some []
  | r :: rs => match resV I σ r, resVs σ rs with | some v, some vs => some (v :: vs) | _, _ => none
def outsOf (σ : St) : Nat → Option (List (List V))
  | 0 => some []
  | n + 1 => match outsOf σ n, σ.cells (.out n) with | some l, some cs => some (l ++ [cs]) | _, _ => none
def resTmps : List ResultVar → List Nat
  | [] => []
  | .tmp t :: r => t :: resTmps r
  | .cell _ _ :: r => resTmps r
/-- Whose slice a result is. -/
def effR (σ : St) : ResultVar → ResultVar
  | .tmp t => match σ.tmp t with | some (.ms t' _ _ _) => .tmp t' | _ => .tmp t
  | r => r
def fin (fn : Func) (no : Nat) (σ : St) : Option R :=
  match resVs I σ fn.results.toList, outsOf σ no with
  | some vs, some outs => if vs.all (retOk no) ∧ (vs.length = 1 ∨ vs.all V.noS = true) ∧ outs.all (·.all cellOk) ∧ (resTmps (fn.results.toList.map (effR σ))).Nodup then some (match vs with | [v] => v | vs => .tup vs, outs) else none
  | _, _ => none
def initEnv : Nat → List V → List (Nat × V)
  | _, [] => []
  | i, v :: vs => (i, v) :: initEnv (i + 1) vs
def initBox : Nat → List (List V) → List (Key × List V)
  | _, [] => []
  | i, c :: cs => (.out i, c) :: initBox (i + 1) cs
def initSt (args : List V) (outs : List (List V)) : St := ⟨initEnv 0 args, initBox 0 outs⟩
def guardOf (ops : List Oper) (o : Oper) : Option (Nat × Bool) :=
  match o.guard with
  | none => none
  | some (j, want) => match ops[j]? with
    | some p => match p.dst with
      | some t => some (t, want)
      | none => none
    | none => none
def calleeOf (σ : St) : Operand → Option Nat
  | .func f => some f
  | .tmp t => match σ.tmp t with | some (.val (.func (.func f) fi ca)) => if fi.size = 0 ∧ ca.size = 0 then some f else none | _ => none
  | _ => none
def calleeReads (x : Operand) : List Loc := match x with | .tmp t => [.tmp t] | _ => []
def undefW (d : Option Nat) : List W := match d with | some d => [.tmp d (some (.val undef))] | none => []
def isBool : Value → Bool | .bool _ => true | _ => false
def note (fp : Option (List (Nat × List Loc × List Loc))) (i : Nat) (rs : List Loc) (ws : List W) : Option (List (Nat × List Loc × List Loc)) :=
  match fp with
  | none => none
  | some l => some ((i, rs, ws.map W.loc) :: l)
/-- Does an operation write where it may? -/
def fits (n : Nat) (o : Oper) : Bool :=
  match o.op, o.dst with
  | .store _ _ _, none => true
  | .store _ _ _, some _ => false
  | .insert _ _ _ _, none => true
  | .insert _ _ _ _, some _ => false
  | .mapUpdate _ _ _ _, none => true
  | .mapUpdate _ _ _ _, some _ => false
  | .call { callee := .value _, .. }, none => true
  | .call { callee := .builtin .copy, .. }, none => true
  | _, some d => decide (d < n)
  | _, none => false
def guardRead (g : Option (Nat × Bool)) : List Loc := match g with | some (t, _) => [.tmp t] | none => []

/-- fn: the function's number, its record and how many boxes it was handed. -/
def exec : Nat → Nat × Func × Nat → List T → St → Option R
  | 0, _, _, _ => none
  | n + 1, fn, [], σ => fin I fn.2.1 fn.2.2 σ
  | n + 1, fn, .blk _ :: k, σ => exec n fn k σ
  | n + 1, fn, .scp _ :: k, σ => exec n fn k σ
  | n + 1, fn, .lp c :: k, σ => exec n fn (.code c :: .lp c :: k) σ
  | n + 1, fn, .code c :: k, σ => match c with
    | .skip => exec n fn k σ
    | .label _ => exec n fn k σ
    | .seq a b => exec n fn (.code a :: .code b :: k) σ
    | .cond x a b => match σ.opd x with
      | some (.val (.bool v)) => match v with
        | true => exec n fn (.code a :: k) (σ.known x true)
        | false => exec n fn (.code b :: k) (σ.known x false)
      | _ => none
    | .block id c => exec n fn (.code c :: .blk id :: k) σ
    | .loop c => exec n fn (.code c :: .lp c :: k) σ
    | .scope c => exec n fn (.code c :: .scp c :: k) σ
    | .exit id => match exitT id k with
      | some k' => exec n fn k' σ
      | none => none
    | .ret => fin I fn.2.1 fn.2.2 σ
    | .region id ops draw => exec n fn (.ops id ops.toList (List.range ops.size) (if draw then some [] else none) :: k) σ
    | _ => none
  | n + 1, fn, .ops id ops [] fp :: k, σ => match (match fp with | none => true | some l => fpOk ops l) with
    | true => exec n fn k (σ.keep (I.keep fn.1 id))
    | false => none
  | n + 1, fn, .ops id ops (i :: rest) fp :: k, σ => match ops[i]? with
    | none => none
    | some o => if fits fn.2.1.ntmps o = false then none else
      let go (g : Option (Nat × Bool)) (σ : St) : Option R :=
        match o.op with
        | .call { callee := .value x, args, .. } => match calleeOf σ x with
          | none => none
          | some f => match (callM f args.toList).run σ with
            | none => none
            | some (f, vs, ks, outs, ws) => match I.entry f with
              | some e => match e vs, outs with
                | some c, [] => exec n fn (.ops id ops rest (note fp i (guardRead g ++ (calleeReads x ++ (callM f args.toList).reads σ)) (ws ++ dstW o.dst (.val c))) :: k) (σ.puts (ws ++ dstW o.dst (.val c)))
                | _, _ => none
              | none => match I.pre f vs outs with
                | true => (match I.func f with
                | some fd => match fd.body with
                  | some c => if (fd.name == "runtime.NumGoroutine") = false then
                      match I.ext f with
                      | some e => e vs outs
                      | none => if fd.params.size = vs.length ∧ fd.nfree = 0 then exec n (f, fd, outs.length) [.code c] (initSt vs outs) else none
                    else none
                  | none => none
                | none => none).bind fun (r : R) =>
                exec n fn (.ops id ops rest (note fp i (guardRead g ++ (calleeReads x ++ (callM f args.toList).reads σ)) (ws ++ (touchW (I.touch f) ks outs r.2 ++ dstW o.dst (backV ks r.1)))) :: k) (σ.puts (ws ++ (touchW (I.touch f) ks outs r.2 ++ dstW o.dst (backV ks r.1))))
                | false => none
        | _ => (opM I ops o).runK σ fun p => match p.1 with
          | true => exec n fn (.ops id ops rest (note fp i (guardRead g ++ (opM I ops o).reads σ) p.2) :: k) (σ.puts p.2)
          | false => none
      match o.guard with
      | none => go none σ
      | some _ => match guardOf ops o with
        | none => none
        | some (t, want) => match σ.tmp t with
          | some (.val (.bool b)) => match b with
            | true => if want then go (some (t, want)) (σ.known (.tmp t) true) else exec n fn (.ops id ops rest (note fp i [.tmp t] (undefW o.dst)) :: k) ((σ.known (.tmp t) true).puts (undefW o.dst))
            | false => if want then exec n fn (.ops id ops rest (note fp i [.tmp t] (undefW o.dst)) :: k) ((σ.known (.tmp t) false).puts (undefW o.dst)) else go (some (t, want)) (σ.known (.tmp t) false)
          | some (.val v) => match isBool v with
            | true => none
            | false => exec n fn (.ops id ops rest (note fp i [.tmp t] (undefW o.dst)) :: k) (σ.puts (undefW o.dst))
          | _ => none
/-- A call. -/
def call (n : Nat) (f : Nat) (vs : List V) (outs : List (List V)) : Option R :=
  match I.func f with
  | some fd => match fd.body with
    | some c => if (fd.name == "runtime.NumGoroutine") = false then
        match I.ext f with
        | some e => if I.pre f vs outs = true then e vs outs else none
        | none => if fd.params.size = vs.length ∧ fd.nfree = 0 then exec I n (f, fd, outs.length) [.code c] (initSt vs outs) else none
      else none
    | none => none
  | none => none
end
end Go.Proofs.YtacfehneeanlgaaDoor.Ev
