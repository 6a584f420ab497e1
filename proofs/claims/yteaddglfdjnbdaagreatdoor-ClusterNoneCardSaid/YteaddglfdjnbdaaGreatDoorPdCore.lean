/-
  A deterministic evaluator for the translated Go code over an abstract heap: values, heap, state, operations.
-/
import Derived.AtR
import Derived.Orders
namespace Pd
open Go

/-- A slice's capacity: known; or up to the end of a row whose end is not known, of elements of sz cells. -/
inductive Cap where
  | ex (c : Nat)
  | op (sz : Nat)
  deriving Inhabited

/-- Abstract values: addresses are names of abstract blocks. -/
inductive AV where
  | bool (b : Bool)
  | int (k : IntKind) (n : Int)
  | str (s : List UInt8)
  | nilp
  | ptr (id off : Nat)
  | nils
  | slice (id off len : Nat) (cap : Cap)
  | map (id : Option Nat)
  | func (f : Nat) (first captured : List AV)
  | yield (id : Nat)
  | nilf
  | iface (t : Nat) (v : AV)
  | nili
  | agg (cs : List AV)
  | tuple (vs : List AV)
  deriving Inhabited

/-- Binary tries over the naturals. -/
inductive Tr (α : Type) where
  | nil
  | node (v : Option α) (l r : Tr α)
  deriving Inhabited

def Tr.get {α : Type} : Tr α → Nat → Option α
  | .nil, _ => none
  | .node v l r, n =>
    match Nat.beq n 0 with
    | true => v
    | false =>
      match Nat.beq (n % 2) 1 with
      | true => l.get (n / 2)
      | false => r.get (n / 2 - 1)

def Tr.setF {α : Type} : Nat → Tr α → Nat → Option α → Tr α
  | 0, t, _, _ => t
  | f + 1, .nil, n, x =>
    match Nat.beq n 0 with
    | true => .node x .nil .nil
    | false =>
      match Nat.beq (n % 2) 1 with
      | true => .node none (Tr.setF f .nil (n / 2) x) .nil
      | false => .node none .nil (Tr.setF f .nil (n / 2 - 1) x)
  | f + 1, .node v l r, n, x =>
    match Nat.beq n 0 with
    | true => .node x l r
    | false =>
      match Nat.beq (n % 2) 1 with
      | true => .node v (Tr.setF f l (n / 2) x) r
      | false => .node v l (Tr.setF f r (n / 2 - 1) x)

def Tr.set {α : Type} (t : Tr α) (n : Nat) (x : Option α) : Tr α := t.setF (n + 1) n x

/-- How a row of cells may be used. -/
inductive Mode where
  /-- of exactly so many cells, the run's own -/
  | fixed
  /-- the run's own; more cells may lie behind those that are known; older prefixes of chain c may be read yet -/
  | grow (c : Option Nat)
  /-- an older prefix: may be read as long as its chain stands -/
  | ro (c : Nat)
  /-- not the run's own: never written -/
  | const
  deriving Inhabited

inductive AD where
  | mark (id : Nat)
  | call (f : Nat) (args : List AV)
  deriving Inhabited

inductive AObj where
  | cells (cs : List AV) (elem : TypeId) (fz : Nat × Nat) (m : Mode)
  | chain
  | map (es : List (AV × AV × Nat)) (clock : Nat)
  | mapIter (m : Option Nat) (since : Nat) (seen : List Nat) (stepped : Nat)
  | strIter (s : List UInt8) (pos : Nat)
  | loop (st : LoopState) (pending : Option Code) (fn : Nat) (env : Tr AV) (n : Nat) (params : List Tmp) (assign body : Code) (defers : Nat)
  | deferred
  deriving Inhabited

/-- What may not be looked at: of the blocks lo .. hi-1 all; or, with 'cell' (a, b), their cells outside a .. b-1. -/
structure Msk where
  lo : Nat
  hi : Nat
  cell : Option (Nat × Nat)
  deriving Inhabited

/-- What was turned: of the block id the cells a .. b-1; none: what it is. -/
structure Lg where
  id : Nat
  cell : Option (Nat × Nat)
  deriving Inhabited

structure St where
  heap : Tr AObj
  ctr : Nat
  /-- what is turned of blocks below is logged -/
  base : Nat
  log : List Lg
  inv : List Msk
  rc : Option (AV × Bool)
  deriving Inhabited

abbrev DM (α : Type) := St → Option (α × St)

namespace DM
def pure {α : Type} (a : α) : DM α := fun s => some (a, s)
def bind {α β : Type} (m : DM α) (f : α → DM β) : DM β := fun s =>
  match m s with
  | none => none
  | some (a, s') => f a s'
def fail {α : Type} : DM α := fun _ => none
def lift {α : Type} (o : Option α) : DM α := fun s =>
  match o with
  | none => none
  | some a => some (a, s)
def guard (b : Bool) : DM Unit := fun s =>
  match b with
  | true => some ((), s)
  | false => none
end DM

instance : Monad DM where
  pure := DM.pure
  bind := DM.bind

def Msk.has (m : Msk) (id : Nat) : Bool := Nat.ble m.lo id && Nat.blt id m.hi

/-- Is it hidden what the block is? -/
def hid (inv : List Msk) (id : Nat) : Bool :=
  match inv with
  | [] => false
  | m :: rest => (m.has id && (match m.cell with | none => true | some _ => false)) || hid rest id

/-- Is one of the cells a .. b-1 hidden? -/
def hidSome (inv : List Msk) (id a b : Nat) : Bool :=
  match inv with
  | [] => false
  | m :: rest => (m.has id && (match m.cell with | none => true | some (c, d) => !(Nat.ble c a && Nat.ble b d))) || hidSome rest id a b

/-- Are all cells a .. b-1 hidden? -/
def hidEach (inv : List Msk) (id a b : Nat) : Bool :=
  match inv with
  | [] => false
  | m :: rest => (m.has id && (match m.cell with | none => true | some (c, d) => Nat.ble b c || Nat.ble d a)) || hidEach rest id a b

/-- What a block is, but its cells. -/
inductive Mt where
  | cells (len : Nat) (elem : TypeId) (fz : Nat × Nat) (m : Mode)
  | obj (o : AObj)
  deriving Inhabited

def AObj.mt : AObj → Mt
  | .cells cs e fz m => .cells cs.length e fz m
  | o => .obj o

def St.mt (s : St) (id : Nat) : Option Mt :=
  match hid s.inv id with
  | true => none
  | false =>
    match s.heap.get id with
    | some o => some o.mt
    | none => none

/-- What a block is. -/
def mtD (id : Nat) : DM Mt := fun s =>
  match s.mt id with
  | none => none
  | some m => some (m, s)

def chained (s : St) : Mode → Bool
  | .ro c => match s.mt c with
    | some (.obj .chain) => true
    | _ => false
  | _ => true

/-- What a row of cells is. -/
def rowD (id : Nat) : DM (Nat × TypeId × (Nat × Nat) × Mode) := fun s =>
  match s.mt id with
  | some (.cells n e fz m) => match chained s m with
    | true => some ((n, e, fz, m), s)
    | false => none
  | _ => none

/-- An object that is no row of cells. -/
def objD (id : Nat) : DM AObj := fun s =>
  match s.mt id with
  | some (.obj o) => some (o, s)
  | _ => none

def logIf (s : St) (l : Lg) : List Lg :=
  match Nat.blt l.id s.base with
  | true => l :: s.log
  | false => s.log

/- States and frames are taken apart and put together anew, so that no projections pile up. -/

def St.turn (s : St) (id : Nat) (x : Option AObj) (l : Lg) : St :=
  match s with
  | ⟨heap, ctr, base, log, inv, rc⟩ => ⟨heap.set id x, ctr, base, (match Nat.blt l.id base with | true => l :: log | false => log), inv, rc⟩

def St.born (s : St) (o : AObj) : St :=
  match s with
  | ⟨heap, ctr, base, log, inv, rc⟩ => ⟨heap.set ctr (some o), ctr + 1, base, log, inv, rc⟩

def St.withRc (s : St) (r : Option (AV × Bool)) : St :=
  match s with
  | ⟨heap, ctr, base, log, inv, _⟩ => ⟨heap, ctr, base, log, inv, r⟩

def St.subF (s : St) (mask : List Msk) : St :=
  match s with
  | ⟨heap, ctr, _, _, inv, rc⟩ => ⟨heap, ctr, ctr, [], mask ++ inv, rc⟩

def St.backF (s s' : St) : St :=
  match s with
  | ⟨_, _, base, log, inv, rc⟩ => match s' with
    | ⟨heap, ctr, _, log', _, _⟩ => ⟨heap, ctr, base, (log'.filter fun l => Nat.blt l.id base) ++ log, inv, rc⟩

theorem St.turn_eq (s : St) (id : Nat) (x : Option AObj) (l : Lg) : s.turn id x l = { s with heap := s.heap.set id x, log := logIf s l } := rfl
theorem St.born_eq (s : St) (o : AObj) : s.born o = { s with heap := s.heap.set s.ctr (some o), ctr := s.ctr + 1 } := rfl
theorem St.withRc_eq (s : St) (r : Option (AV × Bool)) : s.withRc r = { s with rc := r } := rfl

/-- An object is turned, or goes. -/
def isRow : Option AObj → Bool
  | some (.cells ..) => true
  | _ => false

def putObj (id : Nat) (o : Option AObj) : DM Unit := fun s =>
  match s.mt id with
  | some (.obj _) =>
    match Nat.blt id s.ctr && !(isRow o) with
    | true => some ((), s.turn id o ⟨id, none⟩)
    | false => none
  | _ => none

def new (o : AObj) : DM Nat := fun s =>
  some (s.ctr, s.born o)

/-! ### Numbers -/

def ilt : Int → Int → Bool
  | .ofNat a, .ofNat b => Nat.blt a b
  | .ofNat _, .negSucc _ => false
  | .negSucc _, .ofNat _ => true
  | .negSucc a, .negSucc b => Nat.blt b a

def ieq : Int → Int → Bool
  | .ofNat a, .ofNat b => Nat.beq a b
  | .negSucc a, .negSucc b => Nat.beq a b
  | _, _ => false

/-- Whether a number is one of its kind already. -/
def inKind (k : IntKind) (n : Int) : Bool :=
  match k, n with
  | .i64, .ofNat a => Nat.blt a 9223372036854775808
  | .i64, .negSucc a => Nat.blt a 9223372036854775808
  | .u64, .ofNat a => Nat.blt a 18446744073709551616
  | .u32, .ofNat a => Nat.blt a 4294967296
  | .u8, .ofNat a => Nat.blt a 256
  | .i32, .ofNat a => Nat.blt a 2147483648
  | .i32, .negSucc a => Nat.blt a 2147483648
  | _, _ => false

def wrapF (k : IntKind) (n : Int) : Int :=
  match inKind k n with
  | true => n
  | false => k.wrap n

def toNat? : Int → Option Nat
  | .ofNat a => some a
  | .negSucc _ => none

def kindEq : IntKind → IntKind → Bool
  | .i8, .i8 | .i16, .i16 | .i32, .i32 | .i64, .i64 | .u8, .u8 | .u16, .u16 | .u32, .u32 | .u64, .u64 => true
  | _, _ => false

def u8eq (a b : UInt8) : Bool := Nat.beq a.toNat b.toNat

def streq : List UInt8 → List UInt8 → Bool
  | [], [] => true
  | a :: x, b :: y => match u8eq a b with | true => streq x y | false => false
  | _, _ => false

def strlt : List UInt8 → List UInt8 → Bool
  | _, [] => false
  | [], _ :: _ => true
  | a :: x, b :: y => match Nat.blt a.toNat b.toNat with
    | true => true
    | false => match u8eq a b with | true => strlt x y | false => false

/-! ### Values -/

def AV.cells : AV → List AV
  | .agg cs => cs
  | v => [v]

def AV.one : AV → Bool
  | .agg _ => false
  | .tuple _ => false
  | _ => true

def undefA : AV := .tuple []

/-- A constant of the text. -/
def scalarOf : Value → Option AV
  | .bool b => some (.bool b)
  | .int k n => some (.int k n)
  | .string s => some (.str s.data.toList)
  | .pointer none => some .nilp
  | .slice none 0 0 => some .nils
  | .map none => some (.map none)
  | .nilFunc => some .nilf
  | .nilIface => some .nili
  | _ => none

def scalarsOf : List Value → Option (List AV)
  | [] => some []
  | v :: vs =>
    match scalarOf v with
    | none => none
    | some a => match scalarsOf vs with
      | none => none
      | some as => some (a :: as)

def valOf : Value → Option AV
  | .agg cs => (scalarsOf cs.toList).map .agg
  | .tuple vs => (scalarsOf vs.toList).map .tuple
  | .iface t v => (scalarOf v).map (.iface t)
  | v => scalarOf v

/-- Equality of two values of one flat type. -/
def aeq1 : AV → AV → Option Bool
  | .bool a, .bool b => some (a == b)
  | .int k a, .int k' b => match kindEq k k' with | true => some (ieq a b) | false => none
  | .str a, .str b => some (streq a b)
  | .nilp, .nilp => some true
  | .nilp, .ptr _ _ => some false
  | .ptr _ _, .nilp => some false
  | .nils, .nils => some true
  | .nils, .slice .. => some false
  | .slice .., .nils => some false
  | .map none, .map b => some b.isNone
  | .map (some _), .map none => some false
  | .nilf, .nilf => some true
  | .nilf, .func .. => some false
  | .func .., .nilf => some false
  | .nilf, .yield .. => some false
  | .yield .., .nilf => some false
  | .nili, .nili => some true
  | .nili, .iface .. => some false
  | .iface .., .nili => some false
  | _, _ => none

/-- What a cell of a flat type is. -/
inductive FK where
  | bool
  | int
  | str
  deriving Inhabited

/-- Cells of bools, numbers, texts, one by one. -/
def aeqFlat : List FK → List AV → List AV → Option Bool
  | [], [], [] => some true
  | .bool :: ks, .bool p :: x, .bool q :: y => match p == q with | true => aeqFlat ks x y | false => some false
  | .int :: ks, .int k p :: x, .int k' q :: y => match kindEq k k' with | true => (match ieq p q with | true => aeqFlat ks x y | false => some false) | false => none
  | .str :: ks, .str p :: x, .str q :: y => match streq p q with | true => aeqFlat ks x y | false => some false
  | _, _, _ => none

/-- Whether cells are of the kinds. -/
def fits : List FK → List AV → Bool
  | [], [] => true
  | .bool :: ks, .bool _ :: x => fits ks x
  | .int :: ks, .int _ _ :: x => fits ks x
  | .str :: ks, .str _ :: x => fits ks x
  | _, _ => false

inductive Ext where
  | same
  | mapsClone
  | overlaps
  deriving Inhabited

inductive Res where
  | ret (v : AV)
  | pan (v : AV)
  deriving Inhabited

/-- What the evaluator is told of the program. -/
structure Ctx where
  ty : Nat → Option TypeInfo
  fn : Nat → Option Func
  ext : Nat → Option Ext
  /-- types whose values are compared cell by cell: what these are -/
  flat : Nat → Option (List FK)
  /-- the type of bytes' rows that may be seen as a string's -/
  byteTy : Nat → Bool
  /-- a pointer's type behind unsafe.Pointer: elem types of rows at whose head it may point -/
  seen : Nat → Nat → Bool
  prim : Nat → Option (List AV → DM Res)
  /-- how many variables of the packages there are -/
  gl : Nat

variable (C : Ctx)

def und (t : Nat) : Option TypeDesc :=
  match C.ty t with
  | some i =>
    match i.desc with
    | .named _ u => (C.ty u).map (·.desc)
    | d => some d
  | none => none

def sizeOf? (t : Nat) : Option Nat := (C.ty t).map (·.size)

def isAgg? (t : Nat) : Option Bool :=
  match und C t with
  | some (.struct _) => some true
  | some (.array _ _) => some true
  | some _ => some false
  | none => none

def zero? (t : Nat) : Option AV :=
  match C.ty t with
  | some i => match i.zero with
    | some v => valOf v
    | none => none
  | none => none

/-- The element type of a slice's type. -/
def elem? (t : Nat) : Option Nat :=
  match und C t with
  | some (.slice e) => some e
  | _ => none

def arr? (t : Nat) : Option (Nat × Nat) :=
  match und C t with
  | some (.array n e) => some (n, e)
  | _ => none

def fields? (t : Nat) : Option (Array Field) :=
  match und C t with
  | some (.struct fs) => some fs
  | _ => none

def mapTy? (t : Nat) : Option (Nat × Nat) :=
  match und C t with
  | some (.map k e) => some (k, e)
  | _ => none

def isStr (t : Nat) : Bool :=
  match und C t with
  | some .string => true
  | _ => false

/-- A type that is no interface. -/
def concrete (t : Nat) : Bool :=
  match und C t with
  | some (.interface _) => false
  | some _ => true
  | none => false

/-- A number that is not below 0. -/
def natOf : AV → Option Nat
  | .int _ n => toNat? n
  | _ => none

/-! ### Rows of cells -/

/-- The cells off .. off+n-1. -/
def rdN (id off n : Nat) : DM (List AV) := fun s =>
  match s.mt id with
  | some (.cells len _ _ m) =>
    match chained s m && Nat.ble (off + n) len && !(hidSome s.inv id off (off + n)) with
    | true => match s.heap.get id with
      | some (.cells cs _ _ _) => some ((cs.drop off).take n, s)
      | _ => none
    | false => none
  | _ => none

def rd1 (id off : Nat) : DM AV := do
  match ← rdN id off 1 with
  | [v] => DM.pure v
  | _ => DM.fail

def splice {α : Type} (cs : List α) (off : Nat) (vs : List α) : List α := cs.take off ++ (vs ++ cs.drop (off + vs.length))

/-- Cells are turned; nothing else of the row. -/
def setCells (id off : Nat) (vs : List AV) : DM Unit := fun s =>
  match hid s.inv id with
  | true => none
  | false =>
    match s.heap.get id with
    | some (.cells cs e fz m) =>
      match Nat.blt id s.ctr && Nat.ble (off + vs.length) cs.length && !(hidSome s.inv id off (off + vs.length)) with
      | true => some ((), s.turn id (some (.cells (splice cs off vs) e fz m)) ⟨id, some (off, off + vs.length)⟩)
      | false => none
    | _ => none

/-- How a row may be used is turned. -/
def setMode (id : Nat) (fz : Nat × Nat) (m : Mode) : DM Unit := fun s =>
  match hid s.inv id with
  | true => none
  | false =>
    match s.heap.get id with
    | some (.cells cs e _ _) =>
      match Nat.blt id s.ctr with
      | true => some ((), s.turn id (some (.cells cs e fz m)) ⟨id, none⟩)
      | false => none
    | _ => none

def wr (id off : Nat) (vs : List AV) : DM Unit := do
  let (len, _, fz, m) ← rowD id
  DM.guard (Nat.ble (off + vs.length) len)
  DM.guard (vs.all AV.one)
  DM.guard (Nat.ble fz.2 off || Nat.ble (off + vs.length) fz.1 || vs.isEmpty)
  match m with
  | .fixed => setCells id off vs
  | .grow none => setCells id off vs
  | .grow (some c) => do
    putObj c none
    setMode id fz (.grow none)
    setCells id off vs
  | _ => DM.fail

def load (t : Nat) : AV → DM AV
  | .ptr id off => do
    match ← DM.lift (isAgg? C t) with
    | true => do
      let n ← DM.lift (sizeOf? C t)
      let cs ← rdN id off n
      DM.pure (.agg cs)
    | false => rd1 id off
  | _ => DM.fail

def store (t : Nat) (a v : AV) : DM Unit :=
  match a with
  | .ptr id off => do
    let n ← DM.lift (sizeOf? C t)
    DM.guard (Nat.beq v.cells.length n)
    wr id off v.cells
  | _ => DM.fail

def newCells (elem : Nat) (cs : List AV) : DM Nat := do
  DM.guard (cs.all AV.one)
  new (.cells cs elem (0, 0) .fixed)

/-! ### Building -/

def fill (place : Nat → Option (Nat × Nat)) (cells : List AV) : List (Nat × AV) → Option (List AV)
  | [] => some cells
  | (i, v) :: rest =>
    match place i with
    | none => none
    | some (off, size) =>
      match Nat.beq v.cells.length size && Nat.ble (off + v.cells.length) cells.length with
      | true => fill place (splice cells off v.cells) rest
      | false => none

/-- The places of a struct's fields. -/
def placesD : List Field → Option (List (Nat × Nat))
  | [] => some []
  | f :: fs =>
    match sizeOf? C f.type with
    | none => none
    | some n => match placesD fs with
      | none => none
      | some ps => some ((f.offset, n) :: ps)

def buildD (t : Nat) (parts : List (Nat × AV)) : Option AV :=
  match zero? C t, und C t with
  | some zero, some (.struct fields) =>
    match placesD C fields.toList with
    | some ps => (fill (fun i => ps[i]?) zero.cells parts).map .agg
    | none => none
  | some zero, some (.array _ elem) =>
    match sizeOf? C elem with
    | some size => (fill (fun i => some (i * size, size)) zero.cells parts).map .agg
    | none => none
  | _, _ => none

def rep (zero : List AV) : Nat → List AV
  | 0 => []
  | n + 1 => zero ++ rep zero n

def buildSliceD (t len : Nat) (parts : List (Nat × AV)) : DM AV := do
  let elem ← DM.lift (elem? C t)
  let size ← DM.lift (sizeOf? C elem)
  let zero ← DM.lift (zero? C elem)
  DM.guard (Nat.ble (len * size) 16777216)
  DM.guard (Nat.beq zero.cells.length size)
  let cells ← DM.lift (fill (fun i => some (i * size, size)) (rep zero.cells len) parts)
  let id ← newCells elem cells
  DM.pure (.slice id 0 len (.ex len))

def makeSliceD (t : Nat) (len cap : AV) : DM AV := do
  let elem ← DM.lift (elem? C t)
  let i ← DM.lift (C.ty elem)
  let zero ← DM.lift (zero? C elem)
  let l ← DM.lift (natOf len)
  let c ← DM.lift (natOf cap)
  DM.guard (Nat.ble l c)
  DM.guard (Nat.ble c 1073741824 && Nat.ble i.bytes 1024)
  DM.guard (Nat.beq zero.cells.length i.size)
  let id ← newCells elem (rep zero.cells c)
  DM.pure (.slice id 0 l (.ex c))

/-! ### Operators -/

def intBin (op : BinOp) (k : IntKind) (a b : Int) : Option AV :=
  match op with
  | .add => some (.int k (wrapF k (a + b)))
  | .sub => some (.int k (wrapF k (a - b)))
  | .mul => some (.int k (wrapF k (a * b)))
  | .quo => match ieq b 0 with | true => none | false => some (.int k (wrapF k (a.tdiv b)))
  | .rem => match ieq b 0 with | true => none | false => some (.int k (a.tmod b))
  | .and => match a, b with
    | .ofNat x, .ofNat y => match inKind k a && inKind k b with
      | true => some (.int k (Int.ofNat (Nat.land x y)))
      | false => none
    | _, _ => none
  | .or => match a, b with
    | .ofNat x, .ofNat y => match inKind k a && inKind k b with
      | true => some (.int k (Int.ofNat (Nat.lor x y)))
      | false => none
    | _, _ => none
  | .xor => match a, b with
    | .ofNat x, .ofNat y => match inKind k a && inKind k b with
      | true => some (.int k (Int.ofNat (Nat.xor x y)))
      | false => none
    | _, _ => none
  | .eql => some (.bool (ieq a b))
  | .neq => some (.bool (!(ieq a b)))
  | .lss => some (.bool (ilt a b))
  | .leq => some (.bool (!(ilt b a)))
  | .gtr => some (.bool (ilt b a))
  | .geq => some (.bool (!(ilt a b)))
  | _ => none

def shiftBin (op : BinOp) (k : IntKind) (a b : Int) : Option AV :=
  match b with
  | .ofNat y =>
    match Nat.ble y 64, op with
    | true, .shl => some (.int k (wrapF k (a * 2 ^ (min y k.bits))))
    | true, .shr => some (.int k (a.fdiv (2 ^ (min y k.bits))))
    | _, _ => none
  | .negSucc _ => none

def strBin (op : BinOp) (a b : List UInt8) : Option AV :=
  match op with
  | .add => match Nat.ble (a.length + b.length) 9223372036854775807 with
    | true => some (.str (a ++ b))
    | false => none
  | .eql => some (.bool (streq a b))
  | .neq => some (.bool (!(streq a b)))
  | .lss => some (.bool (strlt a b))
  | .leq => some (.bool (strlt a b || streq a b))
  | .gtr => some (.bool (!(strlt a b || streq a b)))
  | .geq => some (.bool (!(strlt a b)))
  | _ => none

def isConstO : Operand → Bool
  | .const _ => true
  | _ => false

def isEq : BinOp → Bool
  | .eql => true
  | .neq => true
  | _ => false

def eqRes (op : BinOp) (b : Bool) : AV :=
  match op with
  | .eql => .bool b
  | _ => .bool (!b)

def isIface (t : Nat) : Bool :=
  match und C t with
  | some (.interface _) => true
  | _ => false

def isBoolT (t : Nat) : Bool :=
  match und C t with
  | some .bool => true
  | _ => false

def isFuncT (t : Nat) : Bool :=
  match und C t with
  | some (.func ..) => true
  | _ => false

def ptrTy? (t : Nat) : Option Nat :=
  match und C t with
  | some (.pointer e) => some e
  | _ => none

/-- What a comparison for equality comes to, where the type is right. -/
def eqOf (op : BinOp) (ok : Bool) (b : Bool) : Option AV :=
  match isEq op && ok with
  | true => some (eqRes op b)
  | false => none

def intD (op : BinOp) (k : IntKind) (a : Int) (k' : IntKind) (b : Int) : Option AV :=
  match op with
  | .shl => shiftBin .shl k a b
  | .shr => shiftBin .shr k a b
  | op => match kindEq k k' with
    | true => intBin op k a b
    | false => none

def aggD (op : BinOp) (t : Nat) (a b : List AV) : Option AV :=
  match C.flat t with
  | some ks => match isEq op && fits ks a && fits ks b with
    | true => (aeqFlat ks a b).map (eqRes op)
    | false => none
  | none => none

/-- Two addresses in one block. -/
def ptrEq (op : BinOp) (t i a j b : Nat) : Option AV :=
  match ptrTy? C t with
  | some e => match sizeOf? C e with
    | some n => eqOf op (Nat.blt 0 n && Nat.beq i j) (Nat.beq a b)
    | none => none
  | none => none

def binD (op : BinOp) (t : Nat) (xo yo : Operand) (x y : AV) : Option AV :=
  match x with
  | .int k a => match y with
    | .int k' b => intD op k a k' b
    | _ => none
  | .str a => match y with
    | .str b => strBin op a b
    | _ => none
  | .agg a => match y with
    | .agg b => aggD C op t a b
    | _ => none
  | .bool a => match y with
    | .bool b => eqOf op (isBoolT C t) (a == b)
    | _ => none
  | .nili => match y with
    | .nili => eqOf op (isIface C t && (isConstO xo || isConstO yo)) true
    | .iface _ _ => eqOf op (isIface C t) false
    | _ => none
  | .iface _ _ => match y with
    | .nili => eqOf op (isIface C t) false
    | _ => none
  | .nilp => match y with
    | .nilp => eqOf op (ptrTy? C t).isSome true
    | .ptr _ _ => eqOf op (ptrTy? C t).isSome false
    | _ => none
  | .ptr i a => match y with
    | .nilp => eqOf op (ptrTy? C t).isSome false
    | .ptr j b => ptrEq C op t i a j b
    | _ => none
  | .nils => match y with
    | .nils => eqOf op (elem? C t).isSome true
    | .slice _ _ _ _ => eqOf op (elem? C t).isSome false
    | _ => none
  | .slice _ _ _ _ => match y with
    | .nils => eqOf op (elem? C t).isSome false
    | _ => none
  | .map none => match y with
    | .map b => eqOf op (mapTy? C t).isSome b.isNone
    | _ => none
  | .map (some _) => match y with
    | .map none => eqOf op (mapTy? C t).isSome false
    | _ => none
  | .nilf => match y with
    | .nilf => eqOf op (isFuncT C t) true
    | .func _ _ _ => eqOf op (isFuncT C t) false
    | .yield _ => eqOf op (isFuncT C t) false
    | _ => none
  | .func _ _ _ => match y with
    | .nilf => eqOf op (isFuncT C t) false
    | _ => none
  | .yield _ => match y with
    | .nilf => eqOf op (isFuncT C t) false
    | _ => none
  | .tuple _ => none

def unD (op : UnOp) (x : AV) : Option AV :=
  match op, x with
  | .not, .bool b => some (.bool (!b))
  | .neg, .int k n => some (.int k (wrapF k (0 - n)))
  | _, _ => none

/-! ### Slices -/

def optBound (x : Option AV) (d : Nat) : Option Nat :=
  match x with
  | none => some d
  | some v => natOf v

def ownMode : Mode → Bool
  | .fixed => true
  | .grow _ => true
  | _ => false

/-- Does an open row reach to the h-th element? -/
def reachD (id off len h sz : Nat) : DM Unit :=
  match Nat.ble h len with
  | true => DM.pure ()
  | false => do
    let (n, _, _, m) ← rowD id
    DM.guard (Nat.ble (off + h * sz) n && ownMode m)

/-- x[lo:hi:mx]. -/
def sliceD (t : Nat) (x : AV) (lo hi mx : Option AV) : DM AV :=
  match x with
  | .str s => do
    DM.guard (isStr C t && mx.isNone)
    let h ← DM.lift (optBound hi s.length)
    DM.guard (Nat.ble h s.length)
    let l ← DM.lift (optBound lo 0)
    DM.guard (Nat.ble l h)
    DM.pure (.str ((s.take h).drop l))
  | .nils => do
    let elem ← DM.lift (elem? C t)
    let _ ← DM.lift (sizeOf? C elem)
    let m ← DM.lift (optBound mx 0)
    let h ← DM.lift (optBound hi 0)
    let l ← DM.lift (optBound lo 0)
    DM.guard (Nat.beq m 0 && Nat.beq h 0 && Nat.beq l 0 && (mx.isNone || hi.isSome))
    DM.pure .nils
  | .slice id off len (.ex c) => do
    let elem ← DM.lift (elem? C t)
    let sz ← DM.lift (sizeOf? C elem)
    let m ← DM.lift (optBound mx c)
    let h ← DM.lift (optBound hi len)
    let l ← DM.lift (optBound lo 0)
    DM.guard (Nat.ble m c && Nat.ble h m && Nat.ble l h && (mx.isNone || hi.isSome))
    DM.pure (.slice id (off + l * sz) (h - l) (.ex (m - l)))
  | .slice id off len (.op sz') => do
    let elem ← DM.lift (elem? C t)
    let sz ← DM.lift (sizeOf? C elem)
    let m ← DM.lift (optBound mx len)
    let h ← DM.lift (optBound hi len)
    let l ← DM.lift (optBound lo 0)
    DM.guard (Nat.ble l h && Nat.beq sz' sz && Nat.blt 0 sz)
    match mx with
    | some _ => do
      DM.guard (Nat.ble m len && Nat.ble h m && hi.isSome)
      DM.pure (.slice id (off + l * sz) (h - l) (.ex (m - l)))
    | none => do
      reachD id off len h sz
      DM.pure (.slice id (off + l * sz) (h - l) (.op sz))
  | .ptr id off => do
    let (n, elem) ← DM.lift (arr? C t)
    let sz ← DM.lift (sizeOf? C elem)
    let m ← DM.lift (optBound mx n)
    let h ← DM.lift (optBound hi n)
    let l ← DM.lift (optBound lo 0)
    DM.guard (Nat.ble m n && Nat.ble h m && Nat.ble l h && (mx.isNone || hi.isSome))
    DM.pure (.slice id (off + l * sz) (h - l) (.ex (m - l)))
  | _ => DM.fail

def sliceCells (sz : Nat) (n : Nat) : AV → DM (List AV)
  | .nils => DM.pure []
  | .slice id off len _ =>
    match Nat.beq (n * sz) 0 with
    | true => DM.pure []
    | false => do
      DM.guard (Nat.ble n len)
      rdN id off (n * sz)
  | .str s => DM.pure ((s.take n).map fun b => .int .u8 b.toNat)
  | _ => DM.fail

def lenD : AV → Option Nat
  | .nils => some 0
  | .slice _ _ n _ => some n
  | .str s => some s.length
  | _ => none

/-- append; 'new': the cells that come; m elements. -/
def appendNew (elem sz : Nat) (old news : List AV) (len m : Nat) (i : TypeInfo) : DM AV := do
  DM.guard (Nat.ble (len + m) 1073741824 && Nat.ble i.bytes 1024 && Nat.blt 0 i.bytes)
  DM.guard (Nat.blt 0 sz)
  let zero ← DM.lift (zero? C elem)
  DM.guard (Nat.beq zero.cells.length sz)
  DM.guard ((old ++ news).all AV.one)
  let id ← new (.cells (old ++ news) elem (0, 0) (.grow none))
  DM.pure (.slice id 0 (len + m) (.op sz))

/-- An older prefix's mark: the one that is there, or a new one. -/
def chainD : Option Nat → DM Nat
  | some c => DM.pure c
  | none => new .chain

/-- append at the end of a row whose end is not known. -/
def appendOpen (elem : Nat) (i : TypeInfo) (id off len m : Nat) (news : List AV) (n e : Nat) (fz : Nat × Nat) (c : Option Nat) : DM AV := do
  DM.guard (Nat.beq (off + len * i.size) n)
  DM.guard (Nat.ble (len + m) 1073741824 && Nat.ble i.bytes 1024 && Nat.blt 0 i.bytes && Nat.blt 0 i.size)
  let zero ← DM.lift (zero? C elem)
  DM.guard (news.all AV.one && Nat.beq e elem && Nat.ble fz.2 n && Nat.beq zero.cells.length i.size && (Nat.beq off 0 || Nat.ble fz.2 fz.1))
  let old ← rdN id off (len * i.size)
  let c ← chainD c
  setMode id fz (.ro c)
  let id' ← new (.cells (old ++ news) e fz (.grow (some c)))
  DM.pure (.slice id' 0 (len + m) (.op i.size))

def appendCells (elem : Nat) (i : TypeInfo) (s : AV) (m : Nat) (news : List AV) : DM AV :=
  match s with
  | .nils =>
    match Nat.beq m 0 with
    | true => DM.pure .nils
    | false => appendNew C elem i.size [] news 0 m i
  | .slice id off len (.ex c) =>
    match Nat.ble (len + m) c with
    | true =>
      match Nat.beq m 0 with
      | true => DM.pure (.slice id off len (.ex c))
      | false => do
        wr id (off + len * i.size) news
        DM.pure (.slice id off (len + m) (.ex c))
    | false => do
      let old ← sliceCells i.size len (.slice id off len (.ex c))
      appendNew C elem i.size old news len m i
  | .slice id off len (.op sz') =>
    match Nat.beq m 0 with
    | true => DM.pure (.slice id off len (.op sz'))
    | false => do
      DM.guard (Nat.beq sz' i.size)
      let (n, e, fz, md) ← rowD id
      match md with
      | .grow c =>
        match Nat.ble (off + (len + m) * i.size) n with
        | true => do
          DM.guard (Nat.blt 0 i.size)
          wr id (off + len * i.size) news
          DM.pure (.slice id off (len + m) (.op i.size))
        | false => appendOpen C elem i id off len m news n e fz c
      | _ => DM.fail
  | _ => DM.fail

/-- What is appended: how many elements, and their cells. -/
def comesD (i : TypeInfo) (elem tx : Nat) (x : AV) : DM (Nat × List AV) :=
  match und C tx with
  | some (.int _) => do
    let n ← DM.lift (natOf x)
    DM.guard (Nat.ble n 1073741824 && Nat.ble i.bytes 1024)
    let zero ← DM.lift (zero? C elem)
    DM.guard (Nat.beq zero.cells.length i.size)
    DM.pure (n, rep zero.cells n)
  | some _ => do
    let m ← DM.lift (lenD x)
    let news ← sliceCells i.size m x
    DM.guard (Nat.beq news.length (m * i.size))
    DM.pure (m, news)
  | none => DM.fail

def appendD (ts tx : Nat) (s x : AV) : DM AV := do
  let elem ← DM.lift (elem? C ts)
  let i ← DM.lift (C.ty elem)
  let (m, news) ← comesD C i elem tx x
  appendCells C elem i s m news

def copyD (td : Nat) (dst src : AV) : DM AV := do
  let elem ← DM.lift (elem? C td)
  let sz ← DM.lift (sizeOf? C elem)
  let a ← DM.lift (lenD src)
  let b ← DM.lift (lenD dst)
  let n := Nat.min a b
  let cs ← sliceCells sz n src
  DM.guard (Nat.beq cs.length (n * sz))
  match dst with
  | .nils => DM.pure (.int .i64 n)
  | .slice id off _ _ =>
    match Nat.beq (n * sz) 0 with
    | true => DM.pure (.int .i64 n)
    | false => do
      wr id off cs
      DM.pure (.int .i64 n)
  | _ => DM.fail

/-! ### Maps -/

/-- How keys of a map are compared. -/
inductive KK where
  | int
  | str
  | flat (ks : List FK)
  deriving Inhabited

def keyKind (t : Nat) : Option KK :=
  match und C t with
  | some (.int _) => some .int
  | some .string => some .str
  | some (.struct _) => match C.flat t with
    | some ks => some (.flat ks)
    | none => none
  | _ => none

def keyEq (kk : KK) (a b : AV) : Option Bool :=
  match kk, a, b with
  | .int, .int k x, .int k' y => match kindEq k k' with | true => some (ieq x y) | false => none
  | .str, .str x, .str y => some (streq x y)
  | .flat ks, .agg x, .agg y => match fits ks x && fits ks y with
    | true => aeqFlat ks x y
    | false => none
  | _, _, _ => none

def findD (kk : KK) (k : AV) : List (AV × AV × Nat) → Nat → Option (Option (Nat × AV × Nat))
  | [], _ => some none
  | (k', v, born) :: es, i =>
    match keyEq kk k k' with
    | none => none
    | some true => some (some (i, v, born))
    | some false => findD kk k es (i + 1)

def mapOf (id : Nat) : DM (List (AV × AV × Nat) × Nat) := do
  match ← objD id with
  | .map es clock => DM.pure (es, clock)
  | _ => DM.fail

def keyGuard (kk : KK) (k : AV) : DM Unit := DM.guard (match keyEq kk k k with | some true => true | _ => false)

def lookupD (t : Nat) (m k : AV) (ok : Bool) : DM AV := do
  let (key, elem) ← DM.lift (mapTy? C t)
  let kk ← DM.lift (keyKind C key)
  keyGuard kk k
  let zero ← DM.lift (zero? C elem)
  match m with
  | .map none => DM.pure (match ok with | true => .tuple [zero, .bool false] | false => zero)
  | .map (some id) => do
    let (es, _) ← mapOf id
    let r ← DM.lift (findD kk k es 0)
    match r with
    | some (_, v, _) => DM.pure (match ok with | true => .tuple [v, .bool true] | false => v)
    | none => DM.pure (match ok with | true => .tuple [zero, .bool false] | false => zero)
  | _ => DM.fail

def setAt {α : Type} : List α → Nat → α → List α
  | [], _, _ => []
  | _ :: l, 0, x => x :: l
  | a :: l, n + 1, x => a :: setAt l n x

def mapUpdateD (t : Nat) (m k v : AV) : DM Unit :=
  match m with
  | .map (some id) => do
    let (key, _) ← DM.lift (mapTy? C t)
    let kk ← DM.lift (keyKind C key)
    keyGuard kk k
    let (es, clock) ← mapOf id
    let r ← DM.lift (findD kk k es 0)
    match r with
    | some (i, _, born) => putObj id (some (.map (setAt es i (k, v, born)) clock))
    | none => putObj id (some (.map (es ++ [(k, v, clock)]) (clock + 1)))
  | _ => DM.fail

def mapEntryD (t : Nat) (m k : AV) : DM AV :=
  match m with
  | .map (some id) => do
    let (key, elem) ← DM.lift (mapTy? C t)
    let kk ← DM.lift (keyKind C key)
    keyGuard kk k
    let (es, clock) ← mapOf id
    let r ← DM.lift (findD kk k es 0)
    match r with
    | some (i, v, born) => do
      putObj id (some (.map (setAt es i (k, v, born)) clock))
      DM.pure (.tuple [v, .int .i64 born])
    | none => do
      let zero ← DM.lift (zero? C elem)
      putObj id (some (.map (es ++ [(k, zero, clock)]) (clock + 1)))
      DM.pure (.tuple [zero, .int .i64 clock])
  | _ => DM.fail

def bornAt (b : Nat) : List (AV × AV × Nat) → Nat → Option (Nat × AV)
  | [], _ => none
  | (k, _, born) :: es, i => match Nat.beq born b with
    | true => some (i, k)
    | false => bornAt b es (i + 1)

def entryStoreD (m stamp v : AV) : DM Unit :=
  match m with
  | .map (some id) => do
    let b ← DM.lift (natOf stamp)
    let (es, clock) ← mapOf id
    let (i, k) ← DM.lift (bornAt b es 0)
    putObj id (some (.map (setAt es i (k, v, b)) clock))
  | _ => DM.fail

def eraseAt {α : Type} : List α → Nat → List α
  | [], _ => []
  | _ :: l, 0 => l
  | a :: l, n + 1 => a :: eraseAt l n

def deleteD (t : Nat) (m k : AV) : DM Unit := do
  let (key, _) ← DM.lift (mapTy? C t)
  let kk ← DM.lift (keyKind C key)
  keyGuard kk k
  match m with
  | .map none => DM.pure ()
  | .map (some id) => do
    let (es, clock) ← mapOf id
    let r ← DM.lift (findD kk k es 0)
    match r with
    | some (i, _, _) => putObj id (some (.map (eraseAt es i) clock))
    | none => DM.pure ()
  | _ => DM.fail

/-! ### Walks over maps and texts -/

def rangeD (t : Nat) (x : AV) : DM AV :=
  match x with
  | .str s => do
    DM.guard (isStr C t)
    let id ← new (.strIter s 0)
    DM.pure (.ptr id 0)
  | .map none => do
    let _ ← DM.lift (mapTy? C t)
    let id ← new (.mapIter none 0 [] 0)
    DM.pure (.ptr id 0)
  | .map (some m) => do
    let _ ← DM.lift (mapTy? C t)
    let (_, clock) ← mapOf m
    let id ← new (.mapIter (some m) clock [] clock)
    DM.pure (.ptr id 0)
  | _ => DM.fail

def nextMapD (id m since : Nat) (seen : List Nat) (last : Nat) : DM AV := do
  let (es, clock) ← mapOf m
  DM.guard (seen.isEmpty || es.isEmpty || !(es.all fun e => Nat.ble last e.2.2))
  let left := es.filter fun e => !(seen.any (Nat.beq e.2.2))
  match left with
  | [] => DM.pure (.tuple [.bool false])
  | [(k, v, born)] =>
    match Nat.blt born since with
    | true => do
      putObj id (some (.mapIter (some m) since (seen ++ [born]) clock))
      DM.pure (.tuple [.bool true, k, v])
    | false => DM.fail
  | _ => DM.fail

def nextStrD (id : Nat) (s : List UInt8) (pos : Nat) : DM AV :=
  match s[pos]? with
  | none => DM.pure (.tuple [.bool false])
  | some b => do
    DM.guard (Nat.blt b.toNat 128)
    putObj id (some (.strIter s (pos + 1)))
    DM.pure (.tuple [.bool true, .int .i64 pos, .int .i32 b.toNat])

def nextD (it : AV) (isString : Bool) : DM AV :=
  match it with
  | .ptr id 0 => do
    let o ← objD id
    match o with
    | .strIter s pos => do
      DM.guard isString
      nextStrD id s pos
    | .mapIter none _ _ _ => do
      DM.guard (!isString)
      DM.pure (.tuple [.bool false])
    | .mapIter (some m) since seen last => do
      DM.guard (!isString)
      nextMapD id m since seen last
    | _ => DM.fail
  | _ => DM.fail

def lastD : List Nat → Option Nat
  | [] => none
  | [a] => some a
  | _ :: l => lastD l

def entryD (it : AV) : DM AV :=
  match it with
  | .ptr id 0 => do
    let o ← objD id
    match o with
    | .mapIter (some m) _ seen stepped => do
      let stamp ← DM.lift (lastD seen)
      let (es, clock) ← mapOf m
      DM.guard (Nat.beq clock stepped)
      let e ← DM.lift (es.find? fun e => Nat.beq e.2.2 stamp)
      DM.pure (.tuple [e.1, e.2.1])
    | _ => DM.fail
  | _ => DM.fail

/-! ### Conversions, interfaces -/

def bytesOf : List AV → Option (List UInt8)
  | [] => some []
  | .int .u8 n :: vs =>
    match inKind .u8 n with
    | true => match bytesOf vs with
      | some l => some (UInt8.ofNat n.toNat :: l)
      | none => none
    | false => none
  | _ => none

/-- Which conversion it is. -/
inductive CV where
  | toInt (k : IntKind)
  | str
  | toBytes (e : Nat)
  | ofBytes
  | toUnsafe (t : Nat)
  | ofUnsafe (u : Nat)

def isByte (t : Nat) : Bool :=
  match und C t with
  | some (.int .u8) => true
  | _ => false

def convKind (src dst : Nat) (x : AV) : Option CV :=
  match und C src, und C dst, x with
  | some _, some (.int k), .int _ _ => some (.toInt k)
  | some _, some .string, .str _ => some .str
  | some _, some (.slice e), .str _ => match isByte C e with | true => some (.toBytes e) | false => none
  | some (.slice e), some .string, .nils => match isByte C e with | true => some .ofBytes | false => none
  | some (.slice e), some .string, .slice .. => match isByte C e with | true => some .ofBytes | false => none
  | some (.pointer t), some .unsafePointer, .ptr .. => some (.toUnsafe t)
  | some .unsafePointer, some (.pointer u), .ptr .. => some (.ofUnsafe u)
  | _, _, _ => none

def convTo (cv : CV) (x : AV) : DM AV :=
  match cv, x with
  | .toInt k, .int _ n => DM.pure (.int k (wrapF k n))
  | .str, .str s => DM.pure (.str s)
  | .toBytes e, .str s => do
    DM.guard (Nat.ble s.length 1073741824)
    let id ← new (.cells (s.map fun b => .int .u8 b.toNat) e (1, 0) (.grow none))
    DM.pure (.slice id 0 s.length (.op 1))
  | .ofBytes, .nils => DM.pure (.str [])
  | .ofBytes, .slice id off len c => do
    let cs ← sliceCells 1 len (.slice id off len c)
    let b ← DM.lift (bytesOf cs)
    DM.pure (.str b)
  | .toUnsafe t, .ptr id off => do
    let n ← DM.lift (sizeOf? C t)
    DM.guard (Nat.blt 0 n)
    let (len, _, _, _) ← rowD id
    DM.guard (Nat.blt off len)
    DM.pure (.ptr id off)
  | .ofUnsafe u, .ptr id off => do
    let n ← DM.lift (sizeOf? C u)
    DM.guard (Nat.blt 0 n)
    let (len, e, _, m) ← rowD id
    DM.guard (match m with | .fixed => true | _ => false)
    DM.guard (Nat.beq off 0 && Nat.beq len n && C.seen e u)
    DM.pure (.ptr id off)
  | _, _ => DM.fail

def convD (src dst : Nat) (x : AV) : DM AV := do
  let cv ← DM.lift (convKind C src dst x)
  convTo C cv x

def tassertD (x : AV) (asserted : Nat) (ok : Bool) : DM AV := do
  DM.guard (concrete C asserted)
  match x with
  | .nili => do
    DM.guard ok
    let z ← DM.lift (zero? C asserted)
    DM.pure (.tuple [z, .bool false])
  | .iface t v =>
    match Nat.beq t asserted with
    | true => DM.pure (match ok with | true => .tuple [v, .bool true] | false => v)
    | false => do
      DM.guard ok
      let z ← DM.lift (zero? C asserted)
      DM.pure (.tuple [z, .bool false])
  | _ => DM.fail

/-! ### Frames -/

structure Fr where
  fn : Nat
  env : Tr AV
  n : Nat
  defers : List AD
  roundOf : Option Nat
  /-- how many variables of the packages there are -/
  gl : Nat
  deriving Inhabited

def Fr.ev (fr : Fr) : Operand → Option AV
  | .tmp t => match fr.env.get t with
    | some v => some v
    | none => some undefA
  | .const v => valOf v
  | .global g => match Nat.blt g fr.gl with
    | true => some (.ptr g 0)
    | false => none
  | .func f => some (.func f [] [])

def Fr.evs (fr : Fr) : List Operand → Option (List AV)
  | [] => some []
  | o :: os =>
    match fr.ev o with
    | none => none
    | some v => match fr.evs os with
      | none => none
      | some vs => some (v :: vs)

def Fr.evParts (fr : Fr) : List (Nat × Operand) → Option (List (Nat × AV))
  | [] => some []
  | (i, o) :: os =>
    match fr.ev o with
    | none => none
    | some v => match fr.evParts os with
      | none => none
      | some vs => some ((i, v) :: vs)

def Fr.evOpt (fr : Fr) : Option Operand → Option (Option AV)
  | none => some none
  | some o => match fr.ev o with
    | none => none
    | some v => some (some v)

def Fr.setEnv (fr : Fr) (d : Nat) (v : AV) : Fr :=
  match fr with
  | ⟨fn, env, n, defers, roundOf, gl⟩ => ⟨fn, env.set d (some v), n, defers, roundOf, gl⟩

def Fr.withDefers (fr : Fr) (ds : List AD) : Fr :=
  match fr with
  | ⟨fn, env, n, _, roundOf, gl⟩ => ⟨fn, env, n, ds, roundOf, gl⟩

theorem Fr.setEnv_eq (fr : Fr) (d : Nat) (v : AV) : fr.setEnv d v = { fr with env := fr.env.set d (some v) } := rfl

def Fr.put (fr : Fr) (dst : Option Nat) (v : AV) : Option Fr :=
  match dst with
  | none => some fr
  | some d => match Nat.blt d fr.n with
    | true => some (fr.setEnv d v)
    | false => none

/-- What an operation comes to. -/
inductive OpRes where
  | val (v : AV)
  | pan (v : AV)
  | defer (d : AD)
  deriving Inhabited

/-- Whom a call calls. -/
inductive Callee' where
  | fn (f : Nat)
  | yield (l : Nat)
  deriving Inhabited

abbrev CallFn := Callee' → List AV → DM Res

def opVal (m : DM AV) : DM OpRes := do
  let v ← m
  DM.pure (.val v)

def opUnit (m : DM Unit) : DM OpRes := do
  m
  DM.pure (.val undefA)

def lenB (t : Nat) (x : AV) : DM AV :=
  match x with
  | .str s => do
    DM.guard (isStr C t)
    DM.pure (.int .i64 s.length)
  | .nils => do
    let _ ← DM.lift (elem? C t)
    DM.pure (.int .i64 0)
  | .slice _ _ n _ => do
    let _ ← DM.lift (elem? C t)
    DM.pure (.int .i64 n)
  | .map none => do
    let _ ← DM.lift (mapTy? C t)
    DM.pure (.int .i64 0)
  | .map (some id) => do
    let _ ← DM.lift (mapTy? C t)
    let (es, _) ← mapOf id
    DM.pure (.int .i64 es.length)
  | _ => do
    let (n, _) ← DM.lift (arr? C t)
    DM.pure (.int .i64 n)

def capB (t : Nat) (x : AV) : DM AV :=
  match x with
  | .nils => do
    let _ ← DM.lift (elem? C t)
    DM.pure (.int .i64 0)
  | .slice _ _ _ (.ex c) => do
    let _ ← DM.lift (elem? C t)
    DM.pure (.int .i64 c)
  | .slice _ _ _ (.op _) => DM.fail
  | _ => do
    let (n, _) ← DM.lift (arr? C t)
    DM.pure (.int .i64 n)

def maxOf : AV → AV → Option AV
  | .int k x, .int k' y => match kindEq k k' with
    | true => some (.int k (match ilt x y with | true => y | false => x))
    | false => none
  | _, _ => none

def minOf : AV → AV → Option AV
  | .int k x, .int k' y => match kindEq k k' with
    | true => some (.int k (match ilt y x with | true => y | false => x))
    | false => none
  | _, _ => none

def clearB (t : Nat) (x : AV) : DM Unit := do
  let elem ← DM.lift (elem? C t)
  match x with
  | .nils => DM.pure ()
  | .slice id off n _ =>
    match Nat.beq n 0 with
    | true => DM.pure ()
    | false => do
      let zero ← DM.lift (zero? C elem)
      let sz ← DM.lift (sizeOf? C elem)
      DM.guard (Nat.beq zero.cells.length sz)
      wr id off (rep zero.cells n)
  | _ => DM.fail

def sliceDataB (x : AV) : DM AV :=
  match x with
  | .nils => DM.pure .nilp
  | .slice id off len _ => do
    DM.guard (Nat.blt 0 len)
    DM.pure (.ptr id off)
  | _ => DM.fail

/-- What is frozen of a row, with off .. off+n-1. -/
def fzWith (fz : Nat × Nat) (off n : Nat) : Nat × Nat :=
  match Nat.beq fz.1 fz.2 with
  | true => (off, off + n)
  | false => (Nat.min fz.1 off, Nat.max fz.2 (off + n))

def stringB (t : Nat) (p k : AV) : DM AV := do
  let e ← DM.lift (ptrTy? C t)
  let n ← DM.lift (natOf k)
  match Nat.beq n 0 with
  | true => do
    DM.guard (match p with | .nilp => true | .ptr _ _ => true | _ => false)
    DM.pure (.str [])
  | false =>
    match p with
    | .ptr id off => do
      DM.guard (Nat.ble n 1073741824 && C.byteTy e)
      let (_, e', fz, m) ← rowD id
      DM.guard (C.byteTy e' && ownMode m && Nat.ble fz.1 fz.2)
      let cs ← rdN id off n
      let b ← DM.lift (bytesOf cs)
      setMode id (fzWith fz off n) m
      DM.pure (.str b)
    | _ => DM.fail

/-- recover. -/
def recoverB : DM AV := fun s =>
  match s.rc with
  | none => some (.nili, s)
  | some (_, true) => none
  | some (v, false) => some (v, { s with rc := some (v, true) })

def arg1 : List AV → Option AV
  | [x] => some x
  | _ => none

def arg2 : List AV → Option (AV × AV)
  | [x, y] => some (x, y)
  | _ => none

def hd? : List Nat → Option Nat
  | t :: _ => some t
  | _ => none

def tys2 : List Nat → Option (Nat × Nat)
  | [t, u] => some (t, u)
  | _ => none

def builtinD (b : Builtin) (tys : List Nat) (args : List AV) : DM OpRes :=
  match b with
  | .len => opVal (do
      let t ← DM.lift (hd? tys)
      let x ← DM.lift (arg1 args)
      lenB C t x)
  | .cap => opVal (do
      let t ← DM.lift (hd? tys)
      let x ← DM.lift (arg1 args)
      capB C t x)
  | .append => opVal (do
      let t ← DM.lift (tys2 tys)
      let x ← DM.lift (arg2 args)
      appendD C t.1 t.2 x.1 x.2)
  | .copy => opVal (do
      let t ← DM.lift (hd? tys)
      let x ← DM.lift (arg2 args)
      copyD C t x.1 x.2)
  | .delete => opUnit (do
      let t ← DM.lift (hd? tys)
      let x ← DM.lift (arg2 args)
      deleteD C t x.1 x.2)
  | .max => opVal (do
      let x ← DM.lift (arg2 args)
      DM.lift (maxOf x.1 x.2))
  | .min => opVal (do
      let x ← DM.lift (arg2 args)
      DM.lift (minOf x.1 x.2))
  | .clear => opUnit (do
      let t ← DM.lift (hd? tys)
      let x ← DM.lift (arg1 args)
      clearB C t x)
  | .unsafeSliceData => opVal (do
      let x ← DM.lift (arg1 args)
      sliceDataB x)
  | .unsafeString => opVal (do
      let t ← DM.lift (hd? tys)
      let x ← DM.lift (arg2 args)
      stringB C t x.1 x.2)
  | .recover => opVal (do
      DM.guard args.isEmpty
      recoverB)
  | _ => DM.fail

/-- A call's target and arguments; a function value's bound parts come first, captured ones last. -/
def targetD (fr : Fr) (c : Call) : Option (Callee' × List AV) :=
  match c.callee with
  | .value f =>
    match fr.ev f, fr.evs c.args.toList with
    | some (.func g first captured), some args => some (.fn g, first ++ (args ++ captured))
    | some (.yield l), some args => some (.yield l, args)
    | _, _ => none
  | _ => none

def resOp : Res → OpRes
  | .ret v => .val v
  | .pan v => .pan v

def pickD (c : AV) (a b : Option AV) : Option AV :=
  match c with
  | .bool true => a
  | .bool false => b
  | _ => none

def nilCheckD : AV → Option AV
  | .ptr id off => some (.ptr id off)
  | .func f [] c => some (.func f [] c)
  | .yield l => some (.yield l)
  | .iface t v => some (.iface t v)
  | _ => none

def toFunc? : Fn → Option Nat
  | .func g => some g
  | _ => none

def isIntV : AV → Bool
  | .int _ _ => true
  | _ => false

def fieldAddrD (t f : Nat) (x : AV) : DM AV :=
  match x with
  | .ptr id off => do
    let fields ← DM.lift (fields? C t)
    let fd ← DM.lift fields.toList[f]?
    let n ← DM.lift (sizeOf? C fd.type)
    DM.guard (Nat.blt 0 n)
    DM.pure (.ptr id (off + fd.offset))
  | _ => DM.fail

/-- A part of an aggregate. -/
def partD (t off : Nat) (cs : List AV) : Option AV :=
  match isAgg? C t with
  | some true => match sizeOf? C t with
    | some n => match Nat.ble (off + n) cs.length with
      | true => some (.agg ((cs.drop off).take n))
      | false => none
    | none => none
  | some false => cs[off]?
  | none => none

def fieldD (t f : Nat) (x : AV) : DM AV :=
  match x with
  | .agg cs => do
    let fields ← DM.lift (fields? C t)
    let fd ← DM.lift fields.toList[f]?
    DM.lift (partD C fd.type fd.offset cs)
  | _ => DM.fail

def indexAddrD (t : Nat) (x i : AV) : DM AV :=
  match x with
  | .slice id off len _ => do
    let elem ← DM.lift (elem? C t)
    let i ← DM.lift (natOf i)
    DM.guard (Nat.blt i len)
    let sz ← DM.lift (sizeOf? C elem)
    DM.pure (.ptr id (off + i * sz))
  | .ptr id off => do
    let (n, elem) ← DM.lift (arr? C t)
    let i ← DM.lift (natOf i)
    DM.guard (Nat.blt i n)
    let sz ← DM.lift (sizeOf? C elem)
    DM.pure (.ptr id (off + i * sz))
  | _ => DM.fail

def indexD (t : Nat) (x i : AV) : DM AV :=
  match x with
  | .str s => do
    DM.guard (isStr C t)
    let i ← DM.lift (natOf i)
    let b ← DM.lift s[i]?
    DM.pure (.int .u8 b.toNat)
  | .agg cs => do
    let (n, elem) ← DM.lift (arr? C t)
    let i ← DM.lift (natOf i)
    DM.guard (Nat.blt i n)
    let sz ← DM.lift (sizeOf? C elem)
    DM.lift (partD C elem (i * sz) cs)
  | _ => DM.fail

def makeMapD (t : Nat) : DM AV := do
  let _ ← DM.lift (mapTy? C t)
  let id ← new (.map [] 0)
  DM.pure (.map (some id))

def nthOf (x : AV) (i : Nat) : Option AV :=
  match x with
  | .tuple vs => vs[i]?
  | _ => none

def panicD : AV → DM OpRes
  | .iface t v => DM.pure (.pan (.iface t v))
  | _ => DM.fail

def inRound (fr : Fr) : Bool := fr.roundOf.isSome

def deferD : Callee' × List AV → DM OpRes
  | (.fn f, args) => DM.pure (.defer (.call f args))
  | _ => DM.fail

def isRecover : Builtin → Bool
  | .recover => true
  | _ => false

def callOpD (K : CallFn) (fr : Fr) (c : Call) : DM OpRes :=
  match c.callee with
  | .builtin b => do
    DM.guard (!(isRecover b) || !(inRound fr))
    let args ← DM.lift (fr.evs c.args.toList)
    builtinD C b c.argTypes.toList args
  | .value _ => do
    let t ← DM.lift (targetD fr c)
    let r ← K t.1 t.2
    DM.pure (resOp r)
  | .invoke .. => DM.fail

def opD (K : CallFn) (fr : Fr) (o : Oper) : DM OpRes :=
  match o.op with
  | .move x => opVal (DM.lift (fr.ev x))
  | .assign x => opVal (DM.lift (fr.ev x))
  | .pick c a b => opVal (do
      let c ← DM.lift (fr.ev c)
      DM.lift (pickD c (fr.ev a) (fr.ev b)))
  | .alloc t => opVal (do
      let z ← DM.lift (zero? C t)
      let id ← newCells t z.cells
      DM.pure (.ptr id 0))
  | .box t x => opVal (do
      let v ← DM.lift (fr.ev x)
      let id ← newCells t v.cells
      DM.pure (.ptr id 0))
  | .build t ps => opVal (do
      let ps ← DM.lift (fr.evParts ps.toList)
      DM.lift (buildD C t ps))
  | .buildSlice t n ps => opVal (do
      let ps ← DM.lift (fr.evParts ps.toList)
      buildSliceD C t n ps)
  | .load t a => opVal (do
      let a ← DM.lift (fr.ev a)
      load C t a)
  | .store t a v => opUnit (do
      let a ← DM.lift (fr.ev a)
      let v ← DM.lift (fr.ev v)
      store C t a v)
  | .nilCheck x => opVal (do
      let x ← DM.lift (fr.ev x)
      DM.lift (nilCheckD x))
  | .binOp op t x y _ => opVal (do
      let a ← DM.lift (fr.ev x)
      let b ← DM.lift (fr.ev y)
      DM.lift (binD C op t x y a b))
  | .unOp op _ x => opVal (do
      let a ← DM.lift (fr.ev x)
      DM.lift (unD op a))
  | .convert a b x => opVal (do
      let v ← DM.lift (fr.ev x)
      convD C a b v)
  | .makeInterface t x => opVal (do
      let v ← DM.lift (fr.ev x)
      DM.guard (concrete C t)
      DM.pure (.iface t v))
  | .makeFunc f first cap => opVal (do
      let g ← DM.lift (toFunc? f)
      let a ← DM.lift (fr.evs first.toList)
      let b ← DM.lift (fr.evs cap.toList)
      DM.pure (.func g a b))
  | .makeMap t r => opVal (do
      let r ← DM.lift (fr.evOpt r)
      DM.guard (match r with | none => true | some v => isIntV v)
      makeMapD C t)
  | .makeSlice t l c => opVal (do
      let l ← DM.lift (fr.ev l)
      let c ← DM.lift (fr.ev c)
      makeSliceD C t l c)
  | .slice t x lo hi mx => opVal (do
      let x ← DM.lift (fr.ev x)
      let lo ← DM.lift (fr.evOpt lo)
      let hi ← DM.lift (fr.evOpt hi)
      let mx ← DM.lift (fr.evOpt mx)
      sliceD C t x lo hi mx)
  | .fieldAddr t x f => opVal (do
      let x ← DM.lift (fr.ev x)
      fieldAddrD C t f x)
  | .field t x f => opVal (do
      let x ← DM.lift (fr.ev x)
      fieldD C t f x)
  | .indexAddr t x i => opVal (do
      let x ← DM.lift (fr.ev x)
      let i ← DM.lift (fr.ev i)
      indexAddrD C t x i)
  | .index t x i => opVal (do
      let x ← DM.lift (fr.ev x)
      let i ← DM.lift (fr.ev i)
      indexD C t x i)
  | .lookup t m k ok => opVal (do
      let m ← DM.lift (fr.ev m)
      let k ← DM.lift (fr.ev k)
      lookupD C t m k ok)
  | .mapUpdate t m k v => opUnit (do
      let m ← DM.lift (fr.ev m)
      let k ← DM.lift (fr.ev k)
      let v ← DM.lift (fr.ev v)
      mapUpdateD C t m k v)
  | .insert t m k v => opUnit (do
      let m ← DM.lift (fr.ev m)
      let k ← DM.lift (fr.ev k)
      let v ← DM.lift (fr.ev v)
      mapUpdateD C t m k v)
  | .mapEntry t m k => opVal (do
      let m ← DM.lift (fr.ev m)
      let k ← DM.lift (fr.ev k)
      mapEntryD C t m k)
  | .entryStore _ m s v => opUnit (do
      let m ← DM.lift (fr.ev m)
      let s ← DM.lift (fr.ev s)
      let v ← DM.lift (fr.ev v)
      entryStoreD m s v)
  | .range t x => opVal (do
      let x ← DM.lift (fr.ev x)
      rangeD C t x)
  | .next it isString => opVal (do
      let it ← DM.lift (fr.ev it)
      nextD it isString)
  | .entry it => opVal (do
      let it ← DM.lift (fr.ev it)
      entryD it)
  | .typeAssert x _ a ok => opVal (do
      let x ← DM.lift (fr.ev x)
      tassertD C x a ok)
  | .extract t i => opVal (do
      let t ← DM.lift (fr.ev t)
      DM.lift (nthOf t i))
  | .panic x => do
      let x ← DM.lift (fr.ev x)
      panicD x
  | .call c => callOpD C K fr c
  | .defer c => do
      DM.guard (!(inRound fr))
      let t ← DM.lift (targetD fr c)
      deferD t
  | _ => DM.fail

/-! ### Regions -/

/-- Whether an operation's guard lets it. -/
def wantedD (fr : Fr) (ops : Array Oper) (o : Oper) : Bool :=
  match o.guard with
  | none => true
  | some (j, want) =>
    match ops.toList[j]? with
    | some p => match p.dst with
      | some d => match fr.env.get d with
        | some (.bool b) => b == want
        | _ => false
      | none => false
    | none => false

inductive Ex where
  | normal
  | exit (id : Nat)
  | ret
  | pan (v : AV)
  deriving Inhabited

/-- Operations in the order of the text. -/
def seqD (K : CallFn) (ops : Array Oper) : List Oper → Fr → DM (Ex × Fr)
  | [], fr => DM.pure (.normal, fr)
  | o :: rest, fr =>
    match wantedD fr ops o with
    | false => do
      let fr ← DM.lift (fr.put o.dst undefA)
      seqD K ops rest fr
    | true => do
      match ← opD C K fr o with
      | .val v => do
        let fr ← DM.lift (fr.put o.dst v)
        seqD K ops rest fr
      | .pan v => DM.pure (.pan v, fr)
      | .defer d => do
        let fr ← DM.lift ((fr.withDefers (d :: fr.defers)).put o.dst undefA)
        seqD K ops rest fr

/-- What is kept of an operation of a region that draws its order: the blocks that it made, what it turned, and what was hidden from it. -/
structure Kept where
  lo : Nat
  hi : Nat
  log : List Lg
  mask : List Msk

/-- What is hidden from an operation: blocks of operations ahead of it in the text that it is not ordered behind. -/
def unordered (bits : Nat) : List Kept → Nat → List Msk
  | [], _ => []
  | k :: ks, i =>
    match Nat.testBit bits i with
    | true => unordered bits ks (i + 1)
    | false => match Nat.beq k.lo k.hi with
      | true => unordered bits ks (i + 1)
      | false => ⟨k.lo, k.hi, none⟩ :: unordered bits ks (i + 1)

/-- All but one block's cells a .. b-1. -/
def onlyMask (ctr id a b : Nat) : List Msk := [⟨0, id, none⟩, ⟨id + 1, ctr, none⟩, ⟨id, id + 1, some (a, b)⟩]

/-- Of operations that look at no block, or at some cells of one alone, what they need not see. -/
def classMask (fr : Fr) (s : St) (o : Oper) : Option (List Msk) :=
  match o.op with
  | .load t a => match fr.ev a, sizeOf? C t with
    | some (.ptr id off), some n => match s.mt id with
      | some (.cells _ _ _ (.ro _)) => some []
      | some (.cells _ _ _ _) => some (onlyMask s.ctr id off (off + n))
      | _ => none
    | _, _ => none
  | .store t a _ => match fr.ev a, sizeOf? C t with
    | some (.ptr id off), some n => match s.mt id with
      | some (.cells _ _ _ .fixed) => some (onlyMask s.ctr id off (off + n))
      | some (.cells _ _ _ _) => some []
      | _ => none
    | _, _ => none
  | .slice _ x _ _ _ => match fr.ev x with
    | some (.slice _ _ _ (.op _)) => some []
    | _ => some [⟨0, s.ctr, none⟩]
  | .move _ | .assign _ | .pick .. | .alloc _ | .box .. | .build .. | .buildSlice .. | .nilCheck _ | .binOp .. | .unOp .. | .makeInterface ..
  | .makeFunc .. | .makeMap .. | .makeSlice .. | .fieldAddr .. | .field .. | .indexAddr .. | .index .. | .extract .. | .typeAssert .. => some [⟨0, s.ctr, none⟩]
  | _ => some []

def Lg.hidIn (l : Lg) (mask : List Msk) : Bool :=
  match l.cell with
  | none => hid mask l.id && hidEach mask l.id 0 0
  | some (a, b) => hidEach mask l.id a b

/-- All that was turned is hidden, or was not there yet. -/
def hiddenAll (mask : List Msk) (hi : Nat) : List Lg → Bool
  | [] => true
  | l :: ls => match Nat.ble hi l.id || l.hidIn mask with
    | true => hiddenAll mask hi ls
    | false => false

def tmpsOf : List Operand → List Nat
  | [] => []
  | .tmp t :: os => t :: tmpsOf os
  | _ :: os => tmpsOf os

/-- The temporaries at which an operation looks. -/
def looksAtD (ops : Array Oper) (o : Oper) : List Nat :=
  (match o.guard with
   | some (g, _) => match ops.toList[g]? with
     | some p => match p.dst with
       | some d => [d]
       | none => []
     | none => []
   | none => []) ++ tmpsOf o.op.operands.toList

def memN (a : Nat) : List Nat → Bool
  | [] => false
  | b :: l => match Nat.beq a b with
    | true => true
    | false => memN a l

/-- Two operations that are not ordered touch no temporary of each other. -/
def apartD (ops : Array Oper) (x y : Oper) : Bool :=
  (match x.dst with
   | some d => !(memN d (looksAtD ops y)) && (match y.dst with | some e => !(Nat.beq d e) | none => true)
   | none => true) &&
  (match y.dst with
   | some d => !(memN d (looksAtD ops x))
   | none => true)

/-- No operation of a pair that is not ordered turns what the other one may look at. -/
def freeOf (ops : Array Oper) (bits : Nat) (o : Oper) (k : Kept) : List Oper → List Kept → Nat → Bool
  | p :: ps, j :: js, i =>
    match Nat.testBit bits i with
    | true => freeOf ops bits o k ps js (i + 1)
    | false =>
      match apartD ops p o && hiddenAll k.mask k.hi j.log && hiddenAll j.mask j.hi k.log with
      | true => freeOf ops bits o k ps js (i + 1)
      | false => false
  | _, _, _ => true

/-- Is what recover finds as it was? -/
def rcSame : Option (AV × Bool) → Option (AV × Bool) → Bool
  | none, none => true
  | some (_, a), some (_, b) => a == b
  | _, _ => false

/-- An operation of such a region: what it comes to, the state behind it, and what is kept of it. -/
def drawOne (K : CallFn) (fr : Fr) (o : Oper) (bits : Nat) (done : List Kept) (s : St) : Option (AV × St × Kept) :=
  match classMask C fr s o with
  | none => none
  | some cm =>
    match opD C K fr o (s.subF (unordered bits done 0 ++ cm)) with
    | some (.val v, s') =>
      match rcSame s.rc s'.rc with
      | true => some (v, s.backF s', ⟨s.ctr, s'.ctr, s'.log, unordered bits done 0 ++ cm⟩)
      | false => none
    | _ => none

/-- A region that draws its order, in the order of the text. 'done': what is kept of the operations so far (in the text's order). -/
def drawD (K : CallFn) (ops : Array Oper) (before : List Nat) (all : List Oper) : List Oper → Nat → List Kept → Fr → DM Fr
  | [], _, _, fr => DM.pure fr
  | o :: rest, i, done, fr => fun s =>
    let bits := (before[i]?).getD 0
    match wantedD fr ops o with
    | false =>
      match fr.put o.dst undefA with
      | none => none
      | some fr' =>
        let k : Kept := ⟨s.ctr, s.ctr, [], [⟨0, s.ctr, none⟩]⟩
        match Nat.blt bits (2 ^ i) && freeOf ops bits o k all done 0 with
        | true => drawD K ops before all rest (i + 1) (done ++ [k]) fr' s
        | false => none
    | true =>
      match drawOne C K fr o bits done s with
      | some (v, s', k) =>
        match fr.put o.dst v with
        | none => none
        | some fr' =>
          match Nat.blt bits (2 ^ i) && freeOf ops bits o k all done 0 with
          | true => drawD K ops before all rest (i + 1) (done ++ [k]) fr' s'
          | false => none
      | none => none

/-! ### Code -/

/-- No edge binds in one mode alone. -/
def stays : List Oper → Bool
  | [] => true
  | o :: os => match o.after.toList.all (Region.binds .any) with
    | true => stays os
    | false => false

/-- An order of the operations in which each comes behind what it comes behind in this mode. -/
def orderOk (md : Region.Mode) (ops : Array Oper) : List Nat → List Nat → Bool
  | [], done => (List.range ops.size).all fun i => memN i done
  | i :: l, done =>
    match ops.toList[i]? with
    | some o => match o.after.toList.all fun e => !(Region.binds md e) || memN e.on done with
      | true => orderOk md ops l (i :: done)
      | false => false
    | none => false

def departsOk (ops : Array Oper) : Bool :=
  match stays ops.toList with
  | true => true
  | false => orderOk .text ops (List.range ops.size) [] && orderOk .gc ops (Region.linearise .gc ops 0) []

def iter (body : Fr → DM (Ex × Fr)) : Nat → Fr → DM (Ex × Fr)
  | 0, _ => DM.fail
  | n + 1, fr => do
    match ← body fr with
    | (.normal, fr) => iter body n fr
    | r => DM.pure r

/-- What waits when a range over a function has ended. -/
def pendingD : Option Code → Fr → DM (Ex × Fr)
  | none, fr => DM.pure (.normal, fr)
  | some .ret, fr => DM.pure (.ret, fr)
  | some (.exit id), fr => DM.pure (.exit id, fr)
  | _, _ => DM.fail

/-- Where a loop's deferred calls are kept. -/
def rangeHeadD (fr : Fr) : DM (Nat × List AD) :=
  match fr.roundOf with
  | some l => do
    match ← objD l with
    | .loop _ _ _ _ _ _ _ _ d => DM.pure (d, fr.defers)
    | _ => DM.fail
  | none => do
    let r ← new .deferred
    DM.pure (r, AD.mark r :: fr.defers)

def rangeFuncD (K : CallFn) (fr : Fr) (g : Operand) (params : Array Tmp) (assign body : Code) : DM (Ex × Fr) := do
  let d ← rangeHeadD fr
  let l ← new (.loop .ready none fr.fn fr.env fr.n params.toList assign body d.1)
  let fr := fr.withDefers d.2
  match ← DM.lift (fr.ev g) with
  | .func f first captured => do
    match ← K (.fn f) (first ++ (.yield l :: captured)) with
    | .ret _ => do
      match ← objD l with
      | .loop st pending fn env n ps a b d => do
        DM.guard (match st with | .busy => false | _ => true)
        putObj l (some (.loop .exhausted pending fn env n ps a b d))
        pendingD pending fr
      | _ => DM.fail
    | .pan v => DM.pure (.pan v, fr)
  | _ => DM.fail

def codeD (K : CallFn) (fuel : Nat) : Code → Fr → DM (Ex × Fr)
  | .skip, fr => DM.pure (.normal, fr)
  | .region _ ops draw, fr =>
    match draw with
    | false => seqD C K ops ops.toList fr
    | true => do
      DM.guard (departsOk ops)
      let fr ← drawD C K ops (Region.before ops).toList ops.toList ops.toList 0 [] fr
      DM.pure (.normal, fr)
  | .seq a b, fr => do
    match ← codeD K fuel a fr with
    | (.normal, fr) => codeD K fuel b fr
    | r => DM.pure r
  | .cond c a b, fr => do
    match ← DM.lift (fr.ev c) with
    | .bool true => codeD K fuel a fr
    | .bool false => codeD K fuel b fr
    | _ => DM.fail
  | .block id b, fr => do
    match ← codeD K fuel b fr with
    | (.exit i, fr) => match Nat.beq i id with
      | true => DM.pure (.normal, fr)
      | false => DM.pure (.exit i, fr)
    | r => DM.pure r
  | .loop b, fr => iter (codeD K fuel b) fuel fr
  | .rangeFunc g params assign body, fr => rangeFuncD K fr g params assign body
  | .exit id, fr => DM.pure (.exit id, fr)
  | .label _, fr => DM.pure (.normal, fr)
  | .ret, fr => DM.pure (.ret, fr)
  | _, _ => DM.fail

/-! ### Calls -/

def envOf : List AV → Nat → Tr AV → Tr AV
  | [], _, t => t
  | v :: vs, i, t => envOf vs (i + 1) (t.set i (some v))

def resultOne (fr : Fr) : ResultVar → DM AV
  | .tmp t => DM.lift (fr.ev (.tmp t))
  | .cell a t => do
    let a ← DM.lift (fr.ev (.tmp a))
    load C t a

def resultsD (fr : Fr) : List ResultVar → DM (List AV)
  | [] => DM.pure []
  | r :: rs => do
    let v ← resultOne C fr r
    let vs ← resultsD fr rs
    DM.pure (v :: vs)

def oneOf : List AV → AV
  | [v] => v
  | vs => .tuple vs

/-- What recover finds in a deferred call. -/
def rcFor : Option AV → Option (AV × Bool)
  | none => none
  | some v => some (v, false)

/-- The deferred calls of a function that returns (none) or panics (some v); whether it panics still. -/
def unwindD (K : CallFn) : List AD → Option AV → DM (Option AV)
  | [], p => DM.pure p
  | .mark r :: ds, p => do
    match ← objD r with
    | .deferred => do
      putObj r none
      unwindD K ds p
    | _ => DM.fail
  | .call f args :: ds, p => fun s =>
    match K (.fn f) args (s.withRc (rcFor p)) with
    | some (.ret _, s') =>
      match p, s'.rc with
      | none, none => unwindD K ds none (s'.withRc s.rc)
      | some v, some (_, b) => unwindD K ds (match b with | true => none | false => some v) (s'.withRc s.rc)
      | _, _ => none
    | _ => none

def leaveD (K : CallFn) (results : List ResultVar) (ex : Ex) (fr : Fr) : DM Res := do
  let p ← match ex with
    | .normal => DM.pure none
    | .ret => DM.pure none
    | .pan v => DM.pure (some v)
    | .exit _ => DM.fail
  match ← unwindD K fr.defers p with
  | none => do
    let vs ← resultsD C fr results
    DM.pure (.ret (oneOf vs))
  | some v => DM.pure (.pan v)

def extD (e : Ext) (args : List AV) : DM Res :=
  match e, args with
  | .same, [x] => DM.pure (.ret x)
  | .mapsClone, [.iface t (.map (some id))] => do
    let (es, clock) ← mapOf id
    let id' ← new (.map es clock)
    DM.pure (.ret (.iface t (.map (some id'))))
  | .overlaps, [a, b] =>
    match a, b with
    | .nils, .nils => DM.pure (.ret (.bool false))
    | .nils, .slice .. => DM.pure (.ret (.bool false))
    | .slice .., .nils => DM.pure (.ret (.bool false))
    | .slice _ _ 0 _, .slice .. => DM.pure (.ret (.bool false))
    | .slice .., .slice _ _ 0 _ => DM.pure (.ret (.bool false))
    | _, _ => DM.fail
  | _, _ => DM.fail

def setParams : List Tmp → List AV → Fr → Option Fr
  | [], [], fr => some fr
  | t :: ts, v :: vs, fr => match fr.put (some t) v with
    | none => none
    | some fr => setParams ts vs fr
  | _, _, _ => none

def roundD (K : CallFn) (fuel l : Nat) (args : List AV) : DM Res := do
  match ← objD l with
  | .loop _ _ fn env n params assign body _ => do
    let fr ← DM.lift (setParams params args { fn := fn, env := env, n := n, defers := [], roundOf := some l, gl := C.gl })
    match ← codeD C K fuel assign fr with
    | (.normal, fr) => do
      match ← objD l with
      | .loop .ready pending fn env n ps a b d => do
        putObj l (some (.loop .busy pending fn env n ps a b d))
        let (ex, fr) ← codeD C K fuel body fr
        DM.guard fr.defers.isEmpty
        let jump ← match ex with
          | .normal => DM.pure none
          | .ret => DM.pure (some Code.ret)
          | .exit id => DM.pure (some (Code.exit id))
          | .pan _ => DM.fail
        match ← objD l with
        | .loop _ _ fn env n ps a b d => do
          putObj l (some (.loop (match jump with | none => .ready | some _ => .done) jump fn env n ps a b d))
          DM.pure (.ret (.bool jump.isNone))
        | _ => DM.fail
      | _ => DM.fail
    | _ => DM.fail
  | _ => DM.fail

/-- rc: what recover finds: kept for the call's own frame alone. -/
def callBody (K KD : CallFn) (fuel : Nat) (f : Nat) (args : List AV) : DM Res :=
  match C.prim f with
  | some p => p args
  | none =>
    match C.ext f with
    | some e => extD e args
    | none =>
      match C.fn f with
      | none => DM.fail
      | some fn =>
        match fn.body with
        | none => DM.fail
        | some c => do
          let n := Nat.max args.length fn.ntmps
          let (ex, fr) ← codeD C K fuel c { fn := f, env := envOf args 0 .nil, n := n, defers := [], roundOf := none, gl := C.gl }
          leaveD C KD fn.results.toList ex fr

/-- A normal call: recover finds nothing in it. -/
def plainCall (m : DM Res) : DM Res := fun s =>
  match m (s.withRc none) with
  | some (r, s') => some (r, s'.withRc s.rc)
  | none => none

def callD : Nat → CallFn
  | 0, _, _ => DM.fail
  | n + 1, .fn f, args => callBody C (fun c a => plainCall (callD n c a)) (callD n) n f args
  | n + 1, .yield l, args => roundD C (fun c a => plainCall (callD n c a)) n l args

def callTop (n : Nat) (f : Nat) (args : List AV) : DM Res := plainCall (callD C n (.fn f) args)

end Pd
