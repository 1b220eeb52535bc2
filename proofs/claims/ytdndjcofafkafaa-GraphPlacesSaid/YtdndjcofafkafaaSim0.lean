/- An interpreter of the program's code over values of its own: blocks are numbered by the run itself, numbers may be symbols of which a table tells. Definitions alone; no condition. -/
import Derived.Orders
import Derived.Below
namespace Go.Proofs.Ytdndjcofafkafaa.Sim
set_option linter.unusedVariables false
set_option linter.unusedSimpArgs false
open Go

inductive Tr (α : Type) where
  | nil
  | node (l : Tr α) (v : Option α) (r : Tr α)

def Tr.get {α : Type} : Tr α → Nat → Option α
  | .nil, _ => none
  | .node l v r, n => cond (Nat.beq n 0) v (cond (Nat.beq (n % 2) 1) (l.get ((n - 1) / 2)) (r.get ((n - 1) / 2)))

def Tr.left {α : Type} : Tr α → Tr α
  | .nil => .nil
  | .node l _ _ => l

def Tr.right {α : Type} : Tr α → Tr α
  | .nil => .nil
  | .node _ _ r => r

def Tr.top {α : Type} : Tr α → Option α
  | .nil => none
  | .node _ v _ => v

def Tr.putF {α : Type} : Nat → Tr α → Nat → α → Tr α
  | 0, t, _, _ => t
  | f + 1, t, n, a => cond (Nat.beq n 0) (.node t.left (some a) t.right)
    (cond (Nat.beq (n % 2) 1) (.node (Tr.putF f t.left ((n - 1) / 2) a) t.top t.right) (.node t.left t.top (Tr.putF f t.right ((n - 1) / 2) a)))

def Tr.put {α : Type} (t : Tr α) (n : Nat) (a : α) : Tr α := Tr.putF (n + 1) t n a

def Tr.putO {α : Type} (t : Tr α) (n : Nat) : Option α → Tr α
  | some a => t.put n a
  | none => t

def Tr.ofFrom {α : Type} : List α → Nat → Tr α → Tr α
  | [], _, t => t
  | a :: l, n, t => Tr.ofFrom l (n + 1) (t.put n a)

structure Ref where
  b : Nat
  o : Nat
  v : Nat

inductive Cap where
  | known (c : Nat)
  | least (es lb : Nat)
  | dead

inductive AV where
  | unk
  | bool (b : Bool)
  | int (k : IntKind) (n : Int)
  | sym (k : IntKind) (i : Nat)
  | str (s : ByteArray)
  | nilp
  | ptr (a : Ref)
  | nils
  | sl (a : Ref) (len : Nat) (cap : Cap)
  | nilm
  | map (b : Nat)
  | fn (f : FuncId) (fs cs : List AV)
  | nilf
  | nili
  | agg (cs : List AV)
  | tup (vs : List AV)

inductive AObj where
  | cells (xs : List AV) (ver : Nat)
  | map (es : List (AV × AV))

/-- A number, or a symbol. -/
inductive Num where
  | lit (n : Int)
  | sym (i : Nat)

/-- What is known of an operation of numbers, of which some are symbols. -/
structure Fact where
  op : BinOp
  k : IntKind
  x : Num
  y : Num
  r : AV

structure Ctx where
  types : Tr TypeInfo
  funcs : Tr Func
  facts : List Fact

def ctxOf (P : Program) (facts : List Fact) : Ctx := { types := Tr.ofFrom P.types.toList 0 .nil, funcs := Tr.ofFrom P.funcs.toList 0 .nil, facts }

structure St where
  T : Tr AV
  H : Tr AObj
  nx : Nat

def nth {α : Type} : List α → Nat → Option α
  | [], _ => none
  | a :: _, 0 => some a
  | _ :: l, n + 1 => nth l n

def takeL {α : Type} : Nat → List α → Option (List α)
  | 0, _ => some []
  | _ + 1, [] => none
  | n + 1, a :: l => (takeL n l).map (a :: ·)

def dropL {α : Type} : Nat → List α → List α
  | 0, l => l
  | _ + 1, [] => []
  | n + 1, _ :: l => dropL n l

def setL {α : Type} : List α → Nat → α → Option (List α)
  | [], _, _ => none
  | _ :: l, 0, b => some (b :: l)
  | a :: l, n + 1, b => (setL l n b).map (a :: ·)

/-- The cells from a place on are others. -/
def setsL {α : Type} : List α → Nat → List α → Option (List α)
  | l, _, [] => some l
  | l, n, b :: bs => (setL l n b).bind fun l' => setsL l' (n + 1) bs

/-- 'n' cells from a place on. -/
def cutL {α : Type} (l : List α) (o n : Nat) : Option (List α) := takeL n (dropL o l)

def rep {α : Type} : Nat → List α → List α
  | 0, _ => []
  | n + 1, l => l ++ rep n l

def ofV : Value → Option AV
  | .bool b => some (.bool b)
  | .int k n => some (.int k n)
  | .string s => some (.str s)
  | .pointer none => some .nilp
  | .slice none 0 0 => some .nils
  | .map none => some .nilm
  | .nilFunc => some .nilf
  | .nilIface => some .nili
  | _ => none

def ofVs : List Value → Option (List AV)
  | [] => some []
  | v :: l => match ofV v, ofVs l with
    | some x, some xs => some (x :: xs)
    | _, _ => none

/-- A value without an address, with its cells. -/
def ofW : Value → Option AV
  | .agg cs => (ofVs cs.toList).map .agg
  | .tuple cs => (ofVs cs.toList).map .tup
  | v => ofV v

def toV : AV → Option Value
  | .bool b => some (.bool b)
  | .int k n => some (.int k n)
  | .str s => some (.string s)
  | .nilp => some (.pointer none)
  | .nils => some (.slice none 0 0)
  | .nilm => some (.map none)
  | .nilf => some .nilFunc
  | .nili => some .nilIface
  | _ => none

def cellsOf : AV → List AV
  | .agg cs => cs
  | v => [v]

def wholeA : AV → Bool
  | .unk => false
  | .tup _ => false
  | _ => true

def isAggB : TypeDesc → Bool
  | .struct _ => true
  | .array _ _ => true
  | _ => false

def Ctx.und (C : Ctx) (t : TypeId) : Option TypeDesc :=
  match C.types.get t with
  | some i => match i.desc with
    | .named _ u => (C.types.get u).map (·.desc)
    | d => some d
  | none => none

def Ctx.size (C : Ctx) (t : TypeId) : Option Nat := (C.types.get t).map (·.size)

def Ctx.agg (C : Ctx) (t : TypeId) : Option Bool := (C.und t).map isAggB

def Ctx.zero (C : Ctx) (t : TypeId) : Option AV := (C.types.get t).bind fun i => i.zero.bind fun u => (ofW u).bind fun z => cond (wholeA z) (some z) none

def ev (T : Tr AV) : Operand → AV
  | .tmp t => (T.get t).getD .unk
  | .const v => (ofW v).getD .unk
  | .global _ => .unk
  | .func f => .fn f [] []

def evs (T : Tr AV) (l : List Operand) : List AV := l.map (ev T)

/-- A value out of a row of cells, as 'part' has it. -/
def Ctx.part (C : Ctx) (t : TypeId) (cs : List AV) (o : Nat) : Option AV :=
  match C.agg t, C.size t with
  | some true, some n => (cutL cs o n).map .agg
  | some false, some _ => nth cs o
  | _, _ => none

def cellsAt (H : Tr AObj) (a : Ref) : Option (List AV) :=
  match H.get a.b with
  | some (.cells xs v) => cond (Nat.beq v a.v) (some xs) none
  | _ => none

def mapAt (H : Tr AObj) (b : Nat) : Option (List (AV × AV)) :=
  match H.get b with
  | some (.map es) => some es
  | _ => none

def Ctx.load (C : Ctx) (H : Tr AObj) (t : TypeId) (a : Ref) : Option AV :=
  (cellsAt H a).bind fun xs => C.part t xs a.o

def storeCellsA (H : Tr AObj) (a : Ref) (vs : List AV) : Option (Tr AObj) :=
  (cellsAt H a).bind fun xs => (setsL xs a.o vs).map fun ys => H.put a.b (.cells ys a.v)

/-- The value of a cell is no row of cells. -/
def flat : AV → Bool
  | .agg _ => false
  | .tup _ => false
  | .unk => false
  | _ => true

def flats : List AV → Bool
  | [] => true
  | a :: l => flat a && flats l

def Ctx.store (C : Ctx) (H : Tr AObj) (t : TypeId) (a : Ref) (v : AV) : Option (Tr AObj) :=
  match C.size t with
  | some n => cond (Nat.beq (cellsOf v).length n && flats (cellsOf v)) (storeCellsA H a (cellsOf v)) none
  | none => none

/-- The parts of a whole, laid over its cells. -/
def fillA (place : Nat → Option (Nat × Nat)) (cells : List AV) : List (Nat × AV) → Option (List AV)
  | [] => some cells
  | (i, v) :: rest =>
    match place i with
    | none => none
    | some (off, size) => cond (Nat.beq (cellsOf v).length size && Nat.ble 1 size) ((setsL cells off (cellsOf v)).bind fun cs => fillA place cs rest) none

def sizesA (C : Ctx) : List Field → Option (List (Nat × Nat))
  | [] => some []
  | f :: l => match C.size f.type, sizesA C l with
    | some n, some r => some ((f.offset, n) :: r)
    | _, _ => none

inductive Res where
  | val (v : AV) (H : Tr AObj) (nx : Nat)

def numOf : AV → Option (IntKind × Num)
  | .int k n => some (k, .lit n)
  | .sym k i => some (k, .sym i)
  | _ => none

def IntKind.same : IntKind → IntKind → Bool
  | .i8, .i8 => true | .i16, .i16 => true | .i32, .i32 => true | .i64, .i64 => true
  | .u8, .u8 => true | .u16, .u16 => true | .u32, .u32 => true | .u64, .u64 => true
  | _, _ => false

def Num.same : Num → Num → Bool
  | .lit m, .lit n => decide (m = n)
  | .sym i, .sym j => Nat.beq i j
  | _, _ => false

def BinOp.same (a b : BinOp) : Bool := decide (a = b)

def findFact (op : BinOp) (k : IntKind) (x y : Num) : List Fact → Option AV
  | [] => none
  | f :: l => cond (BinOp.same f.op op && IntKind.same f.k k && Num.same f.x x && Num.same f.y y) (some f.r) (findFact op k x y l)

def pureRun (P : Program) : Sem Value → Option Value
  | .pure v => some v
  | .program k => pureRun P (k P)
  | _ => none

def unV (s : Option Value) : Option AV := s.bind ofW

def binA (P : Program) (C : Ctx) (op : BinOp) (t : TypeId) (x y : AV) : Option AV :=
  match x, y with
  | .int j a, .int k b => unV (pureRun P (binOp op t (.int j a) (.int k b)))
  | .sym _ _, _ | _, .sym _ _ => match numOf x, numOf y with
    | some (j, m), some (k, n) => cond (IntKind.same j k) (findFact op j m n C.facts) none
    | _, _ => none
  | .bool a, .bool b => match op, C.und t with
    | .eql, some .bool => some (.bool (a == b))
    | .neq, some .bool => some (.bool (!(a == b)))
    | _, _ => none
  | .str a, .str b => unV (pureRun P (Op.stringOp op a b))
  | .nils, .sl _ _ _ | .sl _ _ _, .nils => match op, C.und t with
    | .eql, some (.slice _) => some (.bool false)
    | .neq, some (.slice _) => some (.bool true)
    | _, _ => none
  | .nils, .nils => match op, C.und t with
    | .eql, some (.slice _) => some (.bool true)
    | .neq, some (.slice _) => some (.bool false)
    | _, _ => none
  | .nilp, .ptr _ | .ptr _, .nilp => match op, C.und t with
    | .eql, some (.pointer _) => some (.bool false)
    | .neq, some (.pointer _) => some (.bool true)
    | _, _ => none
  | .nilp, .nilp => match op, C.und t with
    | .eql, some (.pointer _) => some (.bool true)
    | .neq, some (.pointer _) => some (.bool false)
    | _, _ => none
  | .nilm, .map _ | .map _, .nilm => match op, C.und t with
    | .eql, some (.map _ _) => some (.bool false)
    | .neq, some (.map _ _) => some (.bool true)
    | _, _ => none
  | .nilm, .nilm => match op, C.und t with
    | .eql, some (.map _ _) => some (.bool true)
    | .neq, some (.map _ _) => some (.bool false)
    | _, _ => none
  | _, _ => none

/-- A number that is none below 0 nor above 'y'. -/
def boundA (x : AV) (y : Nat) : Option Nat :=
  match x with
  | .int _ (.ofNat n) => cond (Nat.ble n y) (some n) none
  | _ => none

def Cap.lb : Cap → Option Nat
  | .known c => some c
  | .least _ lb => some lb
  | .dead => none

def Cap.less : Cap → Nat → Cap
  | .known c, l => .known (c - l)
  | .least es lb, l => .least es (lb - l)
  | .dead, _ => .dead

def maxOf (lb : Nat) : Option AV → Option (Option Nat)
  | some v => (boundA v lb).map some
  | none => some none

def highOf (lb len : Nat) (m : Option Nat) : Option AV → Option Nat
  | some v => boundA v (m.getD lb)
  | none => match m with
    | none => some len
    | some _ => none

def lowOf (h : Nat) : Option AV → Option Nat
  | some v => boundA v h
  | none => some 0

/-- A slice of a slice. -/
def sliceA (size : Nat) (a : Ref) (len : Nat) (cap : Cap) (low high max : Option AV) : Option AV :=
  match cap.lb with
  | none => none
  | some lb =>
    match maxOf lb max with
    | none => none
    | some m =>
      match highOf lb len m high with
      | none => none
      | some h =>
        match lowOf h low with
        | none => none
        | some l =>
          match m with
          | some m => some (.sl (cond (Nat.beq m l) a ⟨a.b, a.o + l * size, a.v⟩) (h - l) (.known (m - l)))
          | none => match cap with
            | .known c => some (.sl (cond (Nat.beq c l) a ⟨a.b, a.o + l * size, a.v⟩) (h - l) (.known (c - l)))
            | .least es lb => cond (Nat.beq es size && (Nat.beq l 0 || Nat.blt l lb)) (some (.sl ⟨a.b, a.o + l * size, a.v⟩ (h - l) (.least es (lb - l)))) (cond (Nat.beq h l) (some (.sl a 0 .dead)) none)
            | .dead => none

def lenA : AV → Option Nat
  | .nils => some 0
  | .sl _ n _ => some n
  | .str s => some s.size
  | _ => none

def bytesA : List UInt8 → List AV
  | [] => []
  | b :: l => .int .u8 (b.toNat : Int) :: bytesA l

/-- The first n elements' cells of a slice or a string. -/
def firstA (H : Tr AObj) (size n : Nat) : AV → Option (List AV)
  | .nils => cond (Nat.beq n 0) (some []) none
  | .sl a len _ => cond (Nat.ble n len) (cond (Nat.beq n 0) (some []) ((cellsAt H a).bind fun xs => cutL xs a.o (n * size))) none
  | .str s => cond (Nat.ble n s.size) (takeL n (bytesA s.data.toList)) none
  | _ => none

def Cap.holds (len : Nat) : Cap → Bool
  | .dead => false
  | .known c => Nat.ble len c
  | .least _ lb => Nat.ble len lb

/-- append: the second operand is a slice or a string. -/
def appendA (H : Tr AObj) (nx : Nat) (es bytes : Nat) (s x : AV) : Option (AV × Tr AObj × Nat) :=
  match lenA x with
  | none => none
  | some n =>
    match firstA H es n x with
    | none => none
    | some new =>
      cond (flats new)
      (match s with
      | .nils => cond (Nat.beq n 0) (some (.nils, H, nx)) (cond (Nat.ble (n * (bytes + 1)) 4294967296) (some (.sl ⟨nx, 0, 0⟩ n (.least es n), H.put nx (.cells new 0), nx + 1)) none)
      | .sl a len cap =>
        cond (Nat.beq n 0) (cond (cap.holds len) (some (s, H, nx)) none) <|
        match cap with
        | .known c =>
          cond (Nat.ble (len + n) c) ((storeCellsA H ⟨a.b, a.o + len * es, a.v⟩ new).map fun H' => (.sl a (len + n) cap, H', nx)) <|
          match firstA H es len s with
          | none => none
          | some old => cond (Nat.ble ((len + n) * (bytes + 1)) 4294967296) (some (.sl ⟨nx, 0, 0⟩ (len + n) (.least es (len + n)), H.put nx (.cells (old ++ new) 0), nx + 1)) none
        | .least es' lb =>
          cond (Nat.beq es' es)
            (cond (Nat.ble (len + n) lb) ((storeCellsA H ⟨a.b, a.o + len * es, a.v⟩ new).map fun H' => (.sl a (len + n) cap, H', nx)) <|
             match firstA H es len s with
             | none => none
             | some old => cond (Nat.ble ((len + n) * (bytes + 1)) 4294967296 && (cellsAt H a).isSome) (some (.sl ⟨a.b, 0, a.v + 1⟩ (len + n) (.least es (len + n)), H.put a.b (.cells (old ++ new) (a.v + 1)), nx)) none)
            none
        | .dead => none
      | _ => none) none

def partsA (T : Tr AV) (l : List (Nat × Operand)) : List (Nat × AV) := l.map fun p => (p.1, ev T p.2)

def wholes : List (Nat × AV) → Bool
  | [] => true
  | p :: l => wholeA p.2 && wholes l

def buildA (C : Ctx) (t : TypeId) (ps : List (Nat × AV)) : Option AV :=
  match C.zero t, C.und t with
  | some z, some (.struct fs) => match sizesA C fs.toList with
    | some pl => (fillA (nth pl) (cellsOf z) ps).map .agg
    | none => none
  | some z, some (.array _ e) => match C.size e with
    | some n => (fillA (fun i => some (i * n, n)) (cellsOf z) ps).map .agg
    | none => none
  | _, _ => none

def buildSliceA (C : Ctx) (t : TypeId) (len : Nat) (ps : List (Nat × AV)) : Option (List AV) :=
  match C.und t with
  | some (.slice e) => match C.size e, C.zero e with
    | some n, some z => cond (Nat.beq (cellsOf z).length n && Nat.ble (len * n) 16777216 && !(Nat.beq n 0)) (fillA (fun i => some (i * n, n)) (rep len (cellsOf z)) ps) none
    | _, _ => none
  | _ => none

def intA : AV → Option Int
  | .int _ n => some n
  | _ => none

def natA : AV → Option Nat
  | .int .i64 (.ofNat n) => some n
  | _ => none

def fieldA (C : Ctx) (t : TypeId) (f : Nat) : Option Field :=
  match C.und t with
  | some (.struct fs) => nth fs.toList f
  | _ => none

def convA (_P : Program) (C : Ctx) (s : St) (src dst : TypeId) (x : AV) : Option Res :=
  match C.und src, C.und dst, x with
  | some _, some (.int k), .int _ n => some (.val (.int k (k.wrap n)) s.H s.nx)
  | some _, some (.int k), .sym _ i => (findFact .add k (.sym i) (.lit 0) C.facts).map fun v => .val v s.H s.nx
  | some .string, some .string, .str b => some (.val (.str b) s.H s.nx)
  | _, _, _ => none

def toBytes : List AV → Option (List UInt8)
  | [] => some []
  | .int .u8 n :: l => (toBytes l).map (UInt8.ofNat n.toNat :: ·)
  | _ => none

def strA (C : Ctx) (H : Tr AObj) (src dst : TypeId) (x : AV) : Option AV :=
  match C.und src, C.und dst, x with
  | some (.slice e), some .string, .nils => match C.und e with
    | some (.int .u8) => some (.str ⟨#[]⟩)
    | _ => none
  | some (.slice e), some .string, .sl a len _ => match C.und e with
    | some (.int .u8) => ((cellsAt H a).bind fun xs => (cutL xs a.o len).bind toBytes).map fun l => .str ⟨⟨l⟩⟩
    | _ => none
  | _, _, _ => none

def isNat : AV → Option Nat
  | .int _ (.ofNat n) => some n
  | _ => none

def minA (C : Ctx) (x y : AV) : Option AV :=
  match x, y with
  | .int j a, .int _ b => some (.int j (if b < a then b else a))
  | _, _ => match numOf x, numOf y with
    | some (j, m), some (k, n) => cond (IntKind.same j k) (match findFact .lss j n m C.facts with
      | some (.bool true) => some y
      | some (.bool false) => some x
      | _ => none) none
    | _, _ => none

def maxA (C : Ctx) (x y : AV) : Option AV :=
  match x, y with
  | .int j a, .int _ b => some (.int j (if b > a then b else a))
  | _, _ => match numOf x, numOf y with
    | some (j, m), some (k, n) => cond (IntKind.same j k) (match findFact .lss j m n C.facts with
      | some (.bool true) => some y
      | some (.bool false) => some x
      | _ => none) none
    | _, _ => none

def strOne (y : AV) (n : Nat) : Bool :=
  match y with
  | .str _ => Nat.beq n 1
  | _ => true

def isSeq : Option TypeDesc → Bool
  | some (.slice _) => true
  | some .string => true
  | _ => false

/-- The builtins. -/
def builtinA (_P : Program) (C : Ctx) (s : St) (b : Builtin) (ts : List TypeId) (args : List AV) : Option Res :=
  match b, ts, args with
  | .len, [t], [x] => match C.und t, x with
    | some .string, .str z => some (.val (.int .i64 (z.size : Int)) s.H s.nx)
    | some (.slice _), .sl _ n _ => some (.val (.int .i64 (n : Int)) s.H s.nx)
    | some (.slice _), .nils => some (.val (.int .i64 0) s.H s.nx)
    | some (.array n _), _ => some (.val (.int .i64 (n : Int)) s.H s.nx)
    | _, _ => none
  | .append, [t, u], [x, y] => match C.und t, isSeq (C.und u) with
    | some (.slice e), true => match C.size e, (C.types.get e).map (·.bytes), C.zero e with
      | some n, some bs, some z => cond (Nat.beq (cellsOf z).length n && !(Nat.beq n 0) && strOne y n) ((appendA s.H s.nx n bs x y).map fun r => .val r.1 r.2.1 r.2.2) none
      | _, _, _ => none
    | _, _ => none
  | .copy, [t, _], [x, y] => match C.und t, x with
    | some (.slice e), .sl a len _ => match lenA y, C.size e with
      | some m, some n => cond (strOne y n) (match firstA s.H n (Nat.min m len) y with
        | some cs => cond (Nat.beq (Nat.min m len) 0) (some (.val (.int .i64 0) s.H s.nx)) (cond (flats cs) ((storeCellsA s.H a cs).map fun H => .val (.int .i64 (Nat.min m len : Nat)) H s.nx) none)
        | none => none) none
      | _, _ => none
    | _, _ => none
  | .clear, [t], [x] => match C.und t, x with
    | some (.slice _), .nils => some (.val .unk s.H s.nx)
    | some (.slice e), .sl a len _ => match C.zero e, C.size e with
      | some z, some n => cond (Nat.beq len 0) (some (.val .unk s.H s.nx)) (cond (Nat.beq (cellsOf z).length n && !(Nat.beq n 0) && flats (rep len (cellsOf z))) ((storeCellsA s.H a (rep len (cellsOf z))).map fun H => .val .unk H s.nx) none)
      | _, _ => none
    | _, _ => none
  | .min, _, [x, y] => (minA C x y).map fun v => .val v s.H s.nx
  | .max, _, [x, y] => (maxA C x y).map fun v => .val v s.H s.nx
  | _, _, _ => none

def aop (P : Program) (C : Ctx) (s : St) (o : Oper) : Option Res :=
  match o.op with
  | .move x => some (.val (ev s.T x) s.H s.nx)
  | .assign x => some (.val (ev s.T x) s.H s.nx)
  | .pick c a b => match ev s.T c with
    | .bool true => some (.val (ev s.T a) s.H s.nx)
    | .bool false => some (.val (ev s.T b) s.H s.nx)
    | _ => none
  | .alloc t => (C.zero t).bind fun z => cond (wholeA z) (some (.val (.ptr ⟨s.nx, 0, 0⟩) (s.H.put s.nx (.cells (cellsOf z) 0)) (s.nx + 1))) none
  | .box _ x => cond (wholeA (ev s.T x)) (some (.val (.ptr ⟨s.nx, 0, 0⟩) (s.H.put s.nx (.cells (cellsOf (ev s.T x)) 0)) (s.nx + 1))) none
  | .build t ps => cond (wholes (partsA s.T ps.toList)) ((buildA C t (partsA s.T ps.toList)).map fun v => .val v s.H s.nx) none
  | .buildSlice t len ps => cond (wholes (partsA s.T ps.toList)) ((buildSliceA C t len (partsA s.T ps.toList)).map fun cs => .val (.sl ⟨s.nx, 0, 0⟩ len (.known len)) (s.H.put s.nx (.cells cs 0)) (s.nx + 1)) none
  | .load t x => match ev s.T x with
    | .ptr a => (C.load s.H t a).map fun v => .val v s.H s.nx
    | _ => none
  | .store t x y => match ev s.T x with
    | .ptr a => (C.store s.H t a (ev s.T y)).map fun H => .val .unk H s.nx
    | _ => none
  | .nilCheck x => match ev s.T x with
    | .ptr a => some (.val (.ptr a) s.H s.nx)
    | _ => none
  | .binOp op t x y _ => (binA P C op t (ev s.T x) (ev s.T y)).map fun v => .val v s.H s.nx
  | .unOp op _ x => match ev s.T x with
    | .int k n => (unV (pureRun P (Op.unary op (.int k n)))).map fun v => .val v s.H s.nx
    | .bool b => (unV (pureRun P (Op.unary op (.bool b)))).map fun v => .val v s.H s.nx
    | _ => none
  | .convert src dst x => match strA C s.H src dst (ev s.T x) with
    | some v => some (.val v s.H s.nx)
    | none => convA P C s src dst (ev s.T x)
  | .makeFunc (.func f) fs cs => some (.val (.fn f (evs s.T fs.toList) (evs s.T cs.toList)) s.H s.nx)
  | .makeSlice t l c => match C.und t, natA (ev s.T l), natA (ev s.T c) with
    | some (.slice e), some l, some c => match C.size e, C.zero e, (C.types.get e).map (·.bytes) with
      | some n, some z, some bs => cond (Nat.ble l c && Nat.ble (c * (bs + 1)) 4294967296 && Nat.beq (cellsOf z).length n && !(Nat.beq n 0)) (some (.val (.sl ⟨s.nx, 0, 0⟩ l (.known c)) (s.H.put s.nx (.cells (rep c (cellsOf z)) 0)) (s.nx + 1))) none
      | _, _, _ => none
    | _, _, _ => none
  | .slice t x lo hi mx => match C.und t, ev s.T x with
    | some (.slice e), .sl a len cap => match C.size e with
      | some n => (sliceA n a len cap (lo.map (ev s.T)) (hi.map (ev s.T)) (mx.map (ev s.T))).map fun v => .val v s.H s.nx
      | none => none
    | some (.slice e), .nils => match C.size e, maxOf 0 (mx.map (ev s.T)) with
      | some _, some m => match highOf 0 0 m (hi.map (ev s.T)) with
        | some h => match lowOf h (lo.map (ev s.T)) with
          | some _ => some (.val .nils s.H s.nx)
          | none => none
        | none => none
      | _, _ => none
    | some .string, .str b => match mx, highOf b.size b.size none (hi.map (ev s.T)) with
      | none, some h => (lowOf h (lo.map (ev s.T))).map fun l => .val (.str (b.extract l h)) s.H s.nx
      | _, _ => none
    | some (.array m e), .ptr a => match C.size e with
      | some n => (sliceA n a m (.known m) (lo.map (ev s.T)) (hi.map (ev s.T)) (mx.map (ev s.T))).map fun v => .val v s.H s.nx
      | none => none
    | _, _ => none
  | .fieldAddr t x f => match ev s.T x, fieldA C t f with
    | .ptr a, some g => match C.size g.type with
      | some (_ + 1) => some (.val (.ptr ⟨a.b, a.o + g.offset, a.v⟩) s.H s.nx)
      | _ => none
    | _, _ => none
  | .field t x f => match ev s.T x, fieldA C t f with
    | .agg cs, some g => (C.part g.type cs g.offset).map fun v => .val v s.H s.nx
    | _, _ => none
  | .indexAddr t x ix => match C.und t, ev s.T x, isNat (ev s.T ix) with
    | some (.array m e), .ptr a, some i => match C.size e with
      | some n => cond (Nat.blt i m) (some (.val (.ptr ⟨a.b, a.o + i * n, a.v⟩) s.H s.nx)) none
      | none => none
    | some (.slice e), .sl a len _, some i => match C.size e with
      | some n => cond (Nat.blt i len) (some (.val (.ptr ⟨a.b, a.o + i * n, a.v⟩) s.H s.nx)) none
      | none => none
    | _, _, _ => none
  | .index t x ix => match C.und t, ev s.T x, isNat (ev s.T ix) with
    | some (.array m e), .agg cs, some i => match C.size e with
      | some n => cond (Nat.blt i m) ((C.part e cs (i * n)).map fun v => .val v s.H s.nx) none
      | none => none
    | some .string, .str b, some i => match nth b.data.toList i with
      | some c => some (.val (.int .u8 (c.toNat : Int)) s.H s.nx)
      | none => none
    | _, _, _ => none
  | .extract x i => match ev s.T x with
    | .tup vs => (nth vs i).map fun v => .val v s.H s.nx
    | _ => none
  | .call c => match c.callee with
    | .value _ => none
    | .builtin b => builtinA P C s b c.argTypes.toList (evs s.T c.args.toList)
    | .invoke _ _ => none
  | _ => none

/-- How a piece of code ends. -/
inductive Ex where
  | norm
  | exit (id : Nat)
  | ret

/-- A call: the function, its arguments, memory, the next block's number. -/
def Caller : Type := FuncId → List AV → Tr AObj → Nat → Option (AV × Tr AObj × Nat)

def putT (nt : Nat) (T : Tr AV) (d : Option Tmp) (v : AV) : Option (Tr AV) :=
  match d with
  | none => some T
  | some d => cond (Nat.blt d nt) (some (T.put d v)) none

/-- Is an operation done at all? -/
def wantedA (T : Tr AV) (dsts : Tr Tmp) (o : Oper) : Option Bool :=
  match o.guard with
  | none => some true
  | some (j, want) => match (dsts.get j).bind T.get with
    | some (.bool b) => some (b == want)
    | some (.tup []) => some false
    | _ => none

def calleeOf (o : Oper) : Option (Call × Operand) :=
  match o.op with
  | .call c => match c.callee with
    | .value f => some (c, f)
    | _ => none
  | _ => none

/-- One operation: its value, memory behind it. -/
def stepA (P : Program) (C : Ctx) (call : Caller) (s : St) (o : Oper) : Option (AV × Tr AObj × Nat) :=
  match calleeOf o with
  | some (c, f) => match ev s.T f with
    | .fn g fs cs => call g (fs ++ evs s.T c.args.toList ++ cs) s.H s.nx
    | _ => none
  | none => match aop P C s o with
    | some (.val v H nx) => some (v, H, nx)
    | _ => none

def oneA (P : Program) (C : Ctx) (call : Caller) (nt : Nat) (s : St) (o : Oper) : Option St :=
  match stepA P C call s o with
  | some (v, H, nx) => cond (Nat.ble s.nx nx) ((putT nt s.T o.dst v).map fun T => ⟨T, H, nx⟩) none
  | none => none

def opsA (P : Program) (C : Ctx) (call : Caller) (nt : Nat) (dsts : Tr Tmp) : List Oper → St → Option St
  | [], s => some s
  | o :: l, s => match wantedA s.T dsts o with
    | some true => (oneA P C call nt s o).bind fun s => opsA P C call nt dsts l s
    | some false => (putT nt s.T o.dst (.tup [])).bind fun T => opsA P C call nt dsts l ⟨T, s.H, s.nx⟩
    | none => none

def dstsFrom : List Oper → Nat → Tr Tmp → Tr Tmp
  | [], _, t => t
  | o :: l, n, t => dstsFrom l (n + 1) (t.putO n o.dst)

/-! ### Regions that draw their order -/

/-- The operations that an operation waits for, as bits. -/
def edgesA : List Edge → Nat → Tr Nat → Nat → Option Nat
  | [], _, _, b => some b
  | e :: es, i, t, b => cond (Region.binds .any e) (cond (Nat.blt e.on i) (edgesA es i t (b ||| 2 ^ e.on ||| (t.get e.on).getD 0)) none) (edgesA es i t b)

def ancA : List Oper → Nat → Tr Nat → Option (Tr Nat)
  | [], _, t => some t
  | o :: l, i, t => match edgesA o.after.toList i t 0 with
    | some b => ancA l (i + 1) (t.put i b)
    | none => none

def waits (anc : Tr Nat) (j i : Nat) : Bool := ((anc.get j).getD 0).testBit i

/-- Two operations of which none waits for the other name no temporary that one of them writes. -/
def apartRow (ops : Array Oper) (anc : Tr Nat) (oj : Oper) (j : Nat) : List Oper → Nat → Bool
  | [], _ => true
  | oi :: l, i => (Nat.ble j i || waits anc j i || Oper.apart ops oi oj) && apartRow ops anc oj j l (i + 1)

def apartAll (ops : Array Oper) (anc : Tr Nat) : List Oper → Nat → Bool
  | [], _ => true
  | oj :: l, j => apartRow ops anc oj j ops.toList 0 && apartAll ops anc l (j + 1)

inductive Acc where
  | rd (bs : List Nat)
  | wr (bs : List Nat) (lo hi : Nat)
  | cl (V H H' : Tr AObj)

def Cap.same : Cap → Cap → Bool
  | .known a, .known b => Nat.beq a b
  | .least a b, .least c d => Nat.beq a c && Nat.beq b d
  | .dead, .dead => true
  | _, _ => false

def Ref.same (a b : Ref) : Bool := Nat.beq a.b b.b && Nat.beq a.o b.o && Nat.beq a.v b.v

def sameFlat : AV → AV → Bool
  | .bool a, .bool b => a == b
  | .int j a, .int k b => IntKind.same j k && decide (a = b)
  | .sym j a, .sym k b => IntKind.same j k && Nat.beq a b
  | .str a, .str b => decide (a = b)
  | .nilp, .nilp => true
  | .ptr a, .ptr b => Ref.same a b
  | .nils, .nils => true
  | .sl a l c, .sl b m d => Ref.same a b && Nat.beq l m && Cap.same c d
  | .nilm, .nilm => true
  | .map a, .map b => Nat.beq a b
  | .nilf, .nilf => true
  | .nili, .nili => true
  | _, _ => false

def sameFlats : List AV → List AV → Bool
  | [], [] => true
  | a :: l, b :: m => sameFlat a b && sameFlats l m
  | _, _ => false

def sameObj : Option AObj → Option AObj → Bool
  | none, none => true
  | some (.cells xs v), some (.cells ys u) => Nat.beq v u && sameFlats xs ys
  | _, _ => false

def sameAt (H H' : Tr AObj) : List Nat → Bool
  | [] => true
  | b :: l => sameObj (H.get b) (H'.get b) && sameAt H H' l

def hiddenAt (V : Tr AObj) : List Nat → Bool
  | [] => true
  | b :: l => (V.get b).isNone && hiddenAt V l

def inL (b : Nat) : List Nat → Bool
  | [] => false
  | c :: l => Nat.beq b c || inL b l

def disj : List Nat → List Nat → Bool
  | [], _ => true
  | b :: l, m => !(inL b m) && disj l m

def outside (lo hi : Nat) : List Nat → Bool
  | [] => true
  | b :: l => !(Nat.ble lo b && Nat.blt b hi) && outside lo hi l

/-- Block numbers from one up to another one. -/
def spanL : Nat → Nat → List Nat
  | 0, _ => []
  | n + 1, lo => lo :: spanL n (lo + 1)

def okPair : Acc → Acc → Bool
  | .rd _, .rd _ => true
  | .rd bs, .wr cs _ _ => disj bs cs
  | .wr bs lo hi, .rd cs => disj bs cs && outside lo hi cs
  | .wr bs lo hi, .wr cs _ _ => disj bs cs && outside lo hi cs
  | .rd bs, .cl _ H H' => sameAt H H' bs
  | .wr bs lo hi, .cl V _ _ => hiddenAt V bs && hiddenAt V (spanL (hi - lo) lo)
  | .cl _ H H', .rd cs => sameAt H H' cs
  | .cl V H H', .wr cs _ _ => hiddenAt V cs && sameAt H H' cs
  | .cl _ _ _, .cl _ _ _ => false

def okLog (anc : Tr Nat) (j : Nat) (acc : Acc) : List (Nat × Acc) → Bool
  | [] => true
  | p :: l => (waits anc j p.1 || okPair p.2 acc) && okLog anc j acc l

/-- What a call may not see. -/
def hiddenL (anc : Tr Nat) (j : Nat) : List (Nat × Acc) → List Nat
  | [] => []
  | p :: l => cond (waits anc j p.1) (hiddenL anc j l) (match p.2 with
    | .wr bs lo hi => bs ++ spanL (hi - lo) lo ++ hiddenL anc j l
    | _ => hiddenL anc j l)

def Tr.delF {α : Type} : Nat → Tr α → Nat → Tr α
  | 0, t, _ => t
  | f + 1, t, n => match t with
    | .nil => .nil
    | .node l v r => cond (Nat.beq n 0) (.node l none r) (cond (Nat.beq (n % 2) 1) (.node (Tr.delF f l ((n - 1) / 2)) v r) (.node l v (Tr.delF f r ((n - 1) / 2))))

def Tr.del {α : Type} (t : Tr α) (n : Nat) : Tr α := Tr.delF (n + 1) t n

def delL (H : Tr AObj) : List Nat → Tr AObj
  | [] => H
  | b :: l => (delL H l).del b

/-- The blocks of a list out of one memory, laid over another one. -/
def layL (F : Tr AObj) (H : Tr AObj) : List Nat → Tr AObj
  | [] => H
  | b :: l => match F.get b with
    | some o => (layL F H l).put b o
    | none => (layL F H l).del b

def isRead : Op → Bool
  | .move _ => true | .assign _ => true | .pick _ _ _ => true | .build _ _ => true | .load _ _ => true | .nilCheck _ => true | .binOp _ _ _ _ _ => true | .unOp _ _ _ => true
  | .convert _ _ _ => true | .makeFunc _ _ _ => true | .slice _ _ _ _ _ => true | .fieldAddr _ _ _ => true | .field _ _ _ => true | .indexAddr _ _ _ => true | .index _ _ _ => true | .extract _ _ => true
  | .call c => match c.callee with
    | .builtin .len => true | .builtin .min => true | .builtin .max => true
    | _ => false
  | _ => false

def blockOf : AV → List Nat
  | .ptr a => [a.b]
  | .sl a _ _ => [a.b]
  | _ => []

def blocksOf : List AV → List Nat
  | [] => []
  | a :: l => blockOf a ++ blocksOf l

def footA (T : Tr AV) (o : Oper) : List Nat :=
  match o.op with
  | .load _ x => blockOf (ev T x)
  | .store _ x _ => blockOf (ev T x)
  | .convert _ _ x => blockOf (ev T x)
  | .call c => match c.callee with
    | .builtin .append => blocksOf (evs T c.args.toList)
    | .builtin .copy => blocksOf (evs T c.args.toList)
    | .builtin .clear => blocksOf (evs T c.args.toList)
    | _ => []
  | _ => []

def hasAll (H : Tr AObj) : List Nat → Bool
  | [] => true
  | b :: l => (H.get b).isSome && hasAll H l

/-- One operation of a region that draws: it sees no more than it may. -/
def drawStep (P : Program) (C : Ctx) (call : Caller) (anc : Tr Nat) (j : Nat) (log : List (Nat × Acc)) (s : St) (o : Oper) : Option (AV × Tr AObj × Nat × Acc) :=
  match calleeOf o with
  | some _ =>
    match stepA P C call ⟨s.T, delL s.H (hiddenL anc j log), s.nx⟩ o with
    | some (v, H', nx) => cond (outside s.nx nx (hiddenL anc j log)) (some (v, layL s.H H' (hiddenL anc j log), nx, .cl (delL s.H (hiddenL anc j log)) s.H (layL s.H H' (hiddenL anc j log)))) none
    | none => none
  | none => cond (isRead o.op)
    (match stepA P C call ⟨s.T, layL s.H .nil (footA s.T o), s.nx⟩ o with
      | some (v, _, _) => some (v, s.H, s.nx, .rd (footA s.T o))
      | none => none)
    (match stepA P C call ⟨s.T, layL s.H .nil (footA s.T o), s.nx⟩ o with
      | some (v, H', nx) => cond (hasAll s.H (footA s.T o)) (some (v, layL H' s.H (footA s.T o ++ spanL (nx - s.nx) s.nx), nx, .wr (footA s.T o) s.nx nx)) none
      | none => none)

def noteA (j : Nat) (acc : Acc) (log : List (Nat × Acc)) : List (Nat × Acc) :=
  match acc with
  | .rd [] => log
  | _ => (j, acc) :: log

def drawGo (P : Program) (C : Ctx) (call : Caller) (nt : Nat) (D : Tr Tmp) (anc : Tr Nat) : List Oper → Nat → List (Nat × Acc) → St → Option St
  | [], _, _, s => some s
  | o :: l, j, log, s => match wantedA s.T D o with
    | some true => match drawStep P C call anc j log s o with
      | some (v, H, nx, acc) => cond (Nat.ble s.nx nx && okLog anc j acc log) ((putT nt s.T o.dst v).bind fun T => drawGo P C call nt D anc l (j + 1) (noteA j acc log) ⟨T, H, nx⟩) none
      | none => none
    | some false => (putT nt s.T o.dst (.tup [])).bind fun T => drawGo P C call nt D anc l (j + 1) log ⟨T, s.H, s.nx⟩
    | none => none

def drawA (P : Program) (C : Ctx) (call : Caller) (nt : Nat) (ops : Array Oper) (s : St) : Option St :=
  match ancA ops.toList 0 .nil with
  | some anc => cond (apartAll ops anc ops.toList 0 && Region.noSelect ops) (drawGo P C call nt (dstsFrom ops.toList 0 .nil) anc ops.toList 0 [] s) none
  | none => none

def loopA (f : St → Option (Ex × St)) : Nat → St → Option (Ex × St)
  | 0, _ => none
  | n + 1, s => match f s with
    | some (.norm, s) => loopA f n s
    | r => r

def codeA (P : Program) (C : Ctx) (call : Caller) (nt : Nat) : Code → St → Option (Ex × St)
  | .skip, s => some (.norm, s)
  | .label _, s => some (.norm, s)
  | .region _ ops false, s => (opsA P C call nt (dstsFrom ops.toList 0 .nil) ops.toList s).map fun s => (.norm, s)
  | .region _ ops true, s => (drawA P C call nt ops s).map fun s => (.norm, s)
  | .seq a b, s => match codeA P C call nt a s with
    | some (.norm, s) => codeA P C call nt b s
    | r => r
  | .cond c a b, s => match ev s.T c with
    | .bool true => codeA P C call nt a s
    | .bool false => codeA P C call nt b s
    | _ => none
  | .block id a, s => match codeA P C call nt a s with
    | some (.exit i, s) => cond (Nat.beq i id) (some (.norm, s)) (some (.exit i, s))
    | r => r
  | .scope a, s => codeA P C call nt a s
  | .loop a, s => loopA (codeA P C call nt a) 1000000 s
  | .exit id, s => some (.exit id, s)
  | .ret, s => some (.ret, s)
  | _, _ => none

def resA (C : Ctx) (s : St) : ResultVar → Option AV
  | .tmp t => s.T.get t
  | .cell a t => match s.T.get a with
    | some (.ptr r) => C.load s.H t r
    | _ => none

def resAs (C : Ctx) (s : St) : List ResultVar → Option (List AV)
  | [] => some []
  | x :: l => match resA C s x, resAs C s l with
    | some v, some vs => some (v :: vs)
    | _, _ => none

def oneOf : List AV → AV
  | [v] => v
  | l => .tup l

def callA (P : Program) (C : Ctx) : Nat → Caller
  | 0 => fun _ _ _ _ => none
  | n + 1 => fun f args H nx =>
    match C.funcs.get f with
    | none => none
    | some fn => match fn.body with
      | none => none
      | some c => cond (Nat.ble args.length fn.ntmps)
        (match codeA P C (callA P C n) fn.ntmps c ⟨Tr.ofFrom args 0 .nil, H, nx⟩ with
        | some (.norm, s) => (resAs C s fn.results.toList).map fun l => (oneOf l, s.H, s.nx)
        | some (.ret, s) => (resAs C s fn.results.toList).map fun l => (oneOf l, s.H, s.nx)
        | _ => none) none

end Go.Proofs.Ytdndjcofafkafaa.Sim
