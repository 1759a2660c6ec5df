/- The logic's machine: what each operation does to a state. It is run by the kernel over the program's own code. -/
import Derived.Test.YtfkeggikdeenbaaL1
set_option linter.unusedVariables false
namespace Go.Gl

/-- A cell's kind. A slice: its elements' type, how many cells and how many bytes each takes. -/
inductive CK where
  | int (k : IntKind)
  | bool
  | str
  | sl (T e B : Nat)

def layFs (lay : TypeId → Option (List CK)) : List Field → Option (List CK)
  | [] => some []
  | f :: fs => match lay f.type with
    | some a => match layFs lay fs with
      | some b => some (a ++ b)
      | none => none
    | none => none

/-- The kinds of a type's cells. -/
def lay (P : Program) : Nat → TypeId → Option (List CK)
  | 0, _ => none
  | n + 1, T => match P.underlying T with
    | some (.int k) => some [.int k]
    | some .bool => some [.bool]
    | some .string => some [.str]
    | some (.slice E) => match P.info? E with
      | some i => some [.sl E i.size i.bytes]
      | none => none
    | some (.struct fs) => layFs (lay P n) fs.toList
    | _ => none

def isAggT (P : Program) (T : TypeId) : Bool :=
  match P.underlying T with
  | some (.struct _) => true
  | some (.array _ _) => true
  | _ => false

/-- The kinds of a type's cells, as many as the type says. -/
def layD (P : Program) (T : TypeId) : Option (List CK) :=
  match lay P 8 T with
  | some ks => bif Nat.beq (P.cellsOf T) ks.length && Nat.blt 0 ks.length then some ks else none
  | none => none

/-- A slice type's elements: their type, how many cells and how many bytes each takes. -/
def sliceT (P : Program) (T : TypeId) : Option (Nat × Nat × Nat) :=
  match P.underlying T with
  | some (.slice E) => match P.info? E with
    | some i => some (E, i.size, i.bytes)
    | none => none
  | _ => none

def zKind : CK → Value → Bool
  | .int k, .int k' n => Nat.beq k.ctorIdx k'.ctorIdx && (match n with | .ofNat 0 => true | _ => false)
  | .bool, .bool b => !b
  | .str, .string s => Nat.beq s.data.size 0
  | .sl _ _ _, .slice none 0 0 => true
  | _, _ => false

def zKinds : List CK → List Value → Bool
  | [], [] => true
  | k :: ks, v :: vs => zKind k v && zKinds ks vs
  | _, _ => false

/-- The same, where the type's zero value is of these kinds. -/
def layZ (P : Program) (T : TypeId) : Option (List CK) :=
  match layD P T with
  | some ks => match P.info? T with
    | some i => match i.zero with
      | some z => bif zKinds ks z.cells.toList then some ks else none
      | none => none
    | none => none
  | none => none

def CK.flat : CK → Bool
  | .sl _ _ _ => false
  | _ => true

def flats : List CK → Bool
  | [] => true
  | k :: ks => k.flat && flats ks

def CK.zeroC : CK → Cell
  | .int k => .c (.int k 0)
  | .bool => .c (.bool false)
  | .str => .c (.str [])
  | .sl _ _ _ => .nil

def CK.zeroD : CK → D
  | .int k => .int k 0
  | .bool => .bool false
  | .str => .str []
  | .sl _ _ B => .sl B []

inductive Upd where
  | slot (s : Nat) (v : Slot)
  | box (b : Nat) (cs : List Cell)
  | tok (t : Nat) (tk : Option Tok)
  | off (b : Nat)

def upd {α : Type} (f : Nat → α) (d : Nat) (v : α) : Nat → α := fun i => bif Nat.beq i d then v else f i

def St.app (st : St) : Upd → St
  | .slot s v => { st with slot := upd st.slot s v }
  | .box b cs => { st with box := upd st.box b (some cs) }
  | .tok t tk => { st with tok := upd st.tok t tk }
  | .off b => { st with box := upd st.box b none }

def St.apps (st : St) : List Upd → St
  | [] => st
  | u :: us => (st.app u).apps us

/-- What a step asks and does: data of these kinds are to be named; then a condition, and what changes. -/
structure Det where
  ks : List CK
  body : List D → Option Prop × List Upd

def constSlot : Value → Slot
  | .int k n => .v false [.c (.int k n)]
  | .bool b => .v false [.c (.bool b)]
  | .string s => .v false [.c (.str s.data.toList)]
  | .slice none 0 0 => .v false [.nil]
  | _ => .any

def constOk : Value → Bool
  | .int k n => (Lit.int k n).wf
  | .string s => Nat.ble s.size maxLen
  | _ => true

def St.ev (st : St) : Operand → Slot
  | .tmp t => st.slot t
  | .const v => bif constOk v then constSlot v else .any
  | .func f => .fn f []
  | .global _ => .any

/-- A cell as a datum that may be read from now on; the tokens that are given up. -/
def Cell.toD (tok : Nat → Option Tok) : CK → Cell → Option (D × List Nat)
  | _, .c d => some (d, [])
  | .sl _ _ B, .nil => some (.sl B [], [])
  | _, .tk t => match tok t with
    | some q => some (.sl q.B q.xs, [t])
    | none => none
  | _, _ => none

def cellsToD (tok : Nat → Option Tok) : List CK → List Cell → Option (List D × List Nat)
  | [], [] => some ([], [])
  | k :: ks, c :: cs => match c.toD tok k with
    | some (d, l) => match cellsToD tok ks cs with
      | some (ds, ls) => some (d :: ds, l ++ ls)
      | none => none
    | none => none
  | _, _ => none

def Slot.cells : Slot → Option (List Cell)
  | .v _ cs => some cs
  | _ => none

/-- Is each of these tokens there, at level 3, and none twice? -/
def allDeep (tok : Nat → Option Tok) : List Nat → Bool
  | [] => true
  | t :: ts => (match tok t with | some tk => Nat.beq tk.L 3 | none => false) && !(ts.elem t) && allDeep tok ts

/-- A datum that is no slice. -/
def D.scal : D → Bool
  | .sl _ _ => false
  | _ => true

/-- Is no cell of these a slice that is only read? -/
def noneConst : List Cell → Bool
  | [] => true
  | c :: cs => (match c with | .c d => d.scal | _ => true) && noneConst cs

/-- Is a row of these kinds, as far as is asked? -/
def okRow : List CK → List D → Bool
  | [], [] => true
  | k :: ks, d :: ds => (bif k.flat then d.scal else true) && okRow ks ds
  | _, _ => false

def splice (cs : List Cell) (off : Nat) (new : List Cell) : List Cell := cs.take off ++ new ++ cs.drop (off + new.length)

def ret (o : Oper) (v : Slot) : List Upd := match o.dst with | some d => [.slot d v] | none => []

def okD (o : Oper) (us : List Upd) : Option Det := some ⟨[], fun _ => (none, us)⟩

def bval (b : Bool) : Slot := .v false [.c (.bool b)]
def ival (k : IntKind) (n : Int) : Slot := .v false [.c (.int k n)]
def sval (s : List UInt8) : Slot := .v false [.c (.str s)]

def distinct : List Nat → Bool
  | [] => true
  | x :: xs => !(xs.elem x) && distinct xs

def kill : List Nat → List Upd
  | [] => []
  | t :: ts => .tok t none :: kill ts

def fillParts (P : Program) : List (Nat × Nat) → List (Nat × Slot) → List Cell → Option (List Cell)
  | _, [], cs => some cs
  | places, (i, s) :: rest, cs => match places[i]?, s.cells with
    | some (off, size), some new => bif Nat.beq new.length size && Nat.ble (off + size) cs.length then fillParts P places rest (splice cs off new) else none
    | _, _ => none

def placesOf (P : Program) : List Field → List (Nat × Nat)
  | [] => []
  | f :: fs => (f.offset, P.cellsOf f.type) :: placesOf P fs

/-- The parts of a slice's elements, in order. -/
def rowsOf (tok : Nat → Option Tok) (ks : List CK) : Nat → List (Nat × Slot) → Option (List (List D) × List Nat × Bool)
  | _, [] => some ([], [], true)
  | n, (i, s) :: rest => bif Nat.beq i n then
      match s.cells with
      | some cs => match cellsToD tok ks cs, rowsOf tok ks (n + 1) rest with
        | some (ds, ts), some (rs, us, b) => some (ds :: rs, ts ++ us, noneConst cs && b)
        | _, _ => none
      | none => none
    else none

def intOp (op : BinOp) (k : IntKind) (a b : Int) : Option (Option Prop × Slot) :=
  match op with
  | .add => some (none, ival k (k.wrap (a + b)))
  | .sub => some (none, ival k (k.wrap (a - b)))
  | .mul => some (none, ival k (k.wrap (a * b)))
  | .quo => some (some (b ≠ 0), ival k (k.wrap (a.tdiv b)))
  | .rem => some (some (b ≠ 0), ival k (a.tmod b))
  | .eql => some (none, bval (a == b))
  | .neq => some (none, bval (a != b))
  | .lss => some (none, bval (decide (a < b)))
  | .leq => some (none, bval (decide (a ≤ b)))
  | .gtr => some (none, bval (decide (b < a)))
  | .geq => some (none, bval (decide (b ≤ a)))
  | _ => none

def strOp (op : BinOp) (a b : List UInt8) : Option (Option Prop × Slot) :=
  match op with
  | .add => some (some (a.length + b.length ≤ maxLen), sval (a ++ b))
  | .eql => some (none, bval (a == b))
  | .neq => some (none, bval (a != b))
  | _ => none

def boolOp (op : BinOp) (a b : Bool) : Option (Option Prop × Slot) :=
  match op with
  | .eql => some (none, bval (a == b))
  | .neq => some (none, bval (a != b))
  | _ => none

/-- Is a slice nil? Not known of what is read; if so it has no elements. -/
def nilOp (op : BinOp) (xs : List (List D)) : Option (Option Prop × Slot) :=
  match op with
  | .eql => some (none, .un xs false)
  | .neq => some (none, .un xs true)
  | _ => none

def binDet (P : Program) (T : TypeId) (op : BinOp) (x y : Slot) : Option (Option Prop × Slot) :=
  match x, y with
  | .v false [.c (.int k a)], .v false [.c (.int k' b)] => bif Nat.beq k.ctorIdx k'.ctorIdx then intOp op k a b else none
  | .v false [.c (.str a)], .v false [.c (.str b)] => strOp op a b
  | .v false [.c (.bool a)], .v false [.c (.bool b)] => match P.underlying T with
    | some .bool => boolOp op a b
    | _ => none
  | .v false [.c (.sl _ xs)], .v false [.nil] => match P.underlying T with
    | some (.slice _) => nilOp op xs
    | _ => none
  | .v false [.nil], .v false [.nil] => match P.underlying T with
    | some (.slice _) => match op with
      | .eql => some (none, bval true)
      | .neq => some (none, bval false)
      | _ => none
    | _ => none
  | _, _ => none

def lenOfSlot (P : Program) (T : TypeId) (tok : Nat → Option Tok) (s : Slot) : Option Nat :=
  match P.underlying T with
  | some .string => match s with
    | .v false [.c (.str s)] => some s.length
    | _ => none
  | some (.slice _) => match s with
    | .v false [.c (.sl _ xs)] => some xs.length
    | .v false [.nil] => some 0
    | .v false [.tk t] => match tok t with | some tk => some tk.xs.length | none => none
    | _ => none
  | _ => none

def pickSlot (t : Bool) (a b : Slot) : Slot :=
  match a, b with
  | .v false [.c (.bool x)], .v false [.c (.bool y)] => bval (bif t then x else y)
  | a, b => bif t then a else b

/-- A row's cells, as data of named kinds. -/
def rowIs (ks : List CK) (row : List D) (ds : List D) : Prop := row = ds

def kindD : CK → D → Cell
  | _, d => .c d

/-- An element's cells from off on. -/
def midOf (off n : Nat) (l : List CK) : List CK := (l.drop off).take n

def toksDown (tok : Nat → Option Tok) (L : Nat) : List Nat → List Upd
  | [] => []
  | t :: ts => (match tok t with | some tk => [.tok t (some { tk with L := L })] | none => []) ++ toksDown tok L ts

def loadDet (P : Program) (o : Oper) (T : TypeId) (p : Slot) (box : Nat → Option (List Cell)) (tok : Nat → Option Tok) : Option Det :=
  match layD P T with
  | none => none
  | some ks => match p with
    | .lp b off => match box b with
      | some cs => bif Nat.ble (off + ks.length) cs.length then okD o (ret o (.v (isAggT P T) ((cs.drop off).take ks.length))) else none
      | none => none
    | .cp xs i off => some ⟨ks, fun ds => (some (((xs.getD i []).drop off).take ks.length = ds), ret o (.v (isAggT P T) (ds.map Cell.c)))⟩
    | .ep t i off => match tok t with
      | some tk => bif Nat.blt tk.L 3 || flats ks then some ⟨ks, fun ds => (some (((tk.xs.getD i []).drop off).take ks.length = ds), ret o (.v (isAggT P T) (ds.map Cell.c)))⟩ else none
      | none => none
    | _ => none

def storeDet (P : Program) (o : Oper) (T : TypeId) (p x : Slot) (box : Nat → Option (List Cell)) (tok : Nat → Option Tok) : Option Det :=
  match layD P T, x.cells with
  | some ks, some new => bif Nat.beq new.length ks.length then
    (match p with
    | .lp b off => match box b with
      | some cs => bif Nat.ble (off + ks.length) cs.length then okD o (.box b (splice cs off new) :: ret o .any) else none
      | none => none
    | .ep t i off => match tok t with
      | some tk => match cellsToD tok ks new with
        | some (ds, ts) => bif !(ts.elem t) && (Nat.beq tk.L 2 || (Nat.beq tk.L 3 && noneConst new && allDeep tok (t :: ts))) then
            some ⟨[], fun _ => (some (off + ks.length ≤ (tk.xs.getD i []).length), kill ts ++ .tok t (some { tk with xs := tk.xs.set i ((tk.xs.getD i []).take off ++ ds ++ (tk.xs.getD i []).drop (off + ks.length)) }) :: ret o .any)⟩
          else none
        | none => none
      | none => none
    | _ => none) else none
  | _, _ => none

def indexDet (P : Program) (o : Oper) (E : TypeId) (x i : Slot) (tok : Nat → Option Tok) : Option Det :=
  match i with
  | .v false [.c (.int .i64 n)] => match x with
    | .v false [.c (.sl _ xs)] => some ⟨[], fun _ => (some (0 ≤ n ∧ n < xs.length ∧ (xs.getD n.toNat []).length = P.cellsOf E), ret o (.cp xs n.toNat 0))⟩
    | .v false [.tk t] => match tok t with
      | some tk => bif Nat.beq tk.e (P.cellsOf E) then some ⟨[], fun _ => (some (0 ≤ n ∧ n < tk.xs.length), ret o (.ep t n.toNat 0))⟩ else none
      | none => none
    | _ => none
  | _ => none

def bytesRows (s : List UInt8) : List (List D) := s.map fun b => [.int .u8 b.toNat]

/-- What is appended to: its level, its elements, its token. -/
def appX (E e B : Nat) (tok : Nat → Option Tok) : Slot → Option (Nat × List (List D) × List Nat)
  | .v false [.nil] => some (3, [], [])
  | .v false [.tk t] => match tok t with
    | some tk => bif Nat.beq tk.T E && Nat.beq tk.e e && Nat.beq tk.B B && Nat.blt 0 tk.L && Nat.ble tk.L 3 then some (tk.L, tk.xs, [t]) else none
    | none => none
  | _ => none

/-- What is appended: its level, what is asked, its elements, its token. -/
def appY (ks : List CK) (e : Nat) (str : Bool) (tok : Nat → Option Tok) : Slot → Option (Nat × Prop × List (List D) × List Nat)
  | .v false [.nil] => bif str then none else some (3, True, [], [])
  | .v false [.c (.sl _ ys)] => bif str then none else some (bif flats ks then 3 else 2, (∀ y ∈ ys, okRow ks y = true), ys, [])
  | .v false [.c (.str s)] => bif str && Nat.beq e 1 then some (3, True, bytesRows s, []) else none
  | .v false [.tk t] => match tok t with
    | some tk => bif !str && Nat.beq tk.e e then some (bif Nat.beq tk.L 3 then 3 else 2, True, tk.xs, [t]) else none
    | none => none
  | _ => none

def appendDet (P : Program) (o : Oper) (f : Nat) (Ts Tx : TypeId) (x y : Slot) (tok : Nat → Option Tok) : Option Det :=
  match sliceT P Ts with
  | some (E, e, B) => match layZ P E, (match P.underlying Tx with | some .string => some true | some (.slice _) => some false | _ => none) with
    | some ks, some str => match appX E e B tok x, appY ks e str tok y with
      | some (lx, xs, tx), some (ly, φ, ys, ty) =>
        bif Nat.blt 0 B && Nat.beq ks.length e && distinct (tx ++ ty) then
          some ⟨[], fun _ => (some (φ ∧ (xs.length + ys.length) * B ≤ capB), kill (tx ++ ty) ++ .tok f (some ⟨bif Nat.beq lx 3 && Nat.beq ly 3 then 3 else bif Nat.beq lx 1 then 1 else 2, E, e, B, xs ++ ys⟩) :: ret o (.v false [.tk f]))⟩
        else none
      | _, _ => none
    | _, _ => none
  | _ => none


def boundOf (s : Option Slot) (dflt : Int) : Option Int :=
  match s with
  | none => some dflt
  | some (.v false [.c (.int .i64 n)]) => some n
  | _ => none

def sliceDet (P : Program) (o : Oper) (T : TypeId) (x : Slot) (lo hi : Option Slot) : Option Det :=
  match P.underlying T with
  | some .string => match x with
    | .v false [.c (.str s)] => match boundOf lo 0, boundOf hi s.length with
      | some l, some h => some ⟨[], fun _ => (some (0 ≤ l ∧ l ≤ h ∧ h ≤ s.length), ret o (sval ((s.take h.toNat).drop l.toNat)))⟩
      | _, _ => none
    | _ => none
  | some (.slice E) => match x with
    | .v false [.c (.sl B xs)] => match P.info? E, boundOf lo 0, boundOf hi xs.length with
      | some _, some l, some h => some ⟨[], fun _ => (some (0 ≤ l ∧ l ≤ h ∧ h ≤ xs.length ∧ (l = h ∨ (xs.getD l.toNat []).length = P.cellsOf E)), ret o (.v false [.c (.sl B ((xs.take h.toNat).drop l.toNat))]))⟩
      | _, _, _ => none
    | _ => none
  | _ => none

def convDet (P : Program) (o : Oper) (src dst : TypeId) (x : Slot) (tok : Nat → Option Tok) : Option Det :=
  match P.underlying src with
  | none => none
  | some _ => match P.underlying dst, x with
    | some (.int k), .v false [.c (.int k' n)] => okD o (ret o (ival k (k.wrap n)))
    | _, _ => none

def makeSliceDet (P : Program) (o : Oper) (f : Nat) (T : TypeId) (l c : Slot) : Option Det :=
  match l, c with
  | .v false [.c (.int .i64 n)], .v false [.c (.int .i64 m)] => match sliceT P T with
    | some (E, e, B) => match layZ P E with
      | some ks => bif Nat.blt 0 B && Nat.beq ks.length e then some ⟨[], fun _ => (some (0 ≤ n ∧ m = n ∧ n * B ≤ capB), .tok f (some ⟨3, E, e, B, List.replicate n.toNat (ks.map CK.zeroD)⟩) :: ret o (.v false [.tk f]))⟩ else none
      | none => none
    | _ => none
  | _, _ => none

def zeroCellsT (P : Program) (T : TypeId) : Option (List Cell) := (layZ P T).map (List.map CK.zeroC)

def fieldOff (P : Program) (S : TypeId) (i : Nat) : Option Nat :=
  match P.underlying S with
  | some (.struct fs) => (fs[i]?).bind fun f => bif Nat.beq (P.cellsOf f.type) 0 then none else some f.offset
  | _ => none

def capsOf : List Slot → Option (List Nat)
  | [] => some []
  | .lp b 0 :: r => (capsOf r).map (b :: ·)
  | _ => none

def extractSlot (s : Slot) (i : Nat) : Option Slot :=
  match s with
  | .tup xs => (xs[i]?).map fun x => .v x.1 x.2
  | _ => none

def maxSlot (op : Bool) (xs : List Slot) : Option Slot :=
  match xs with
  | [.v false [.c (.int .i64 a)], .v false [.c (.int .i64 b)]] => some (ival .i64 (bif op then max a b else min a b))
  | _ => none

/-- An operation that is no call of a function: what it asks and does; f: a name that is free. -/
def opDet (P : Program) (o : Oper) (f : Nat) (ev : Operand → Slot) (box : Nat → Option (List Cell)) (tok : Nat → Option Tok) : Option Det :=
  match o.op with
  | .move x => okD o (ret o (ev x))
  | .assign x => okD o (ret o (ev x))
  | .pick c a b => match ev c with
    | .v false [.c (.bool t)] => okD o (ret o (pickSlot t (ev a) (ev b)))
    | _ => none
  | .alloc T => match zeroCellsT P T with
    | some cs => okD o (.box f cs :: ret o (.lp f 0))
    | none => none
  | .box T x => match layD P T, (ev x).cells with
    | some ks, some cs => bif Nat.beq ks.length cs.length then okD o (.box f cs :: ret o (.lp f 0)) else none
    | _, _ => none
  | .build T parts => match P.underlying T with
    | some (.struct fs) => match zeroCellsT P T with
      | some z => match fillParts P (placesOf P fs.toList) (parts.toList.map fun p => (p.1, ev p.2)) z with
        | some cs => okD o (ret o (.v true cs))
        | none => none
      | none => none
    | _ => none
  | .buildSlice T n parts => match sliceT P T with
    | some (E, e, B) => match layZ P E with
      | some ks => match rowsOf tok ks 0 (parts.toList.map fun p => (p.1, ev p.2)) with
        | some (rows, ts, b) => bif Nat.beq rows.length n && Nat.beq ks.length e && Nat.ble (n * e) 16777216 && Nat.ble (n * B) capB then
            okD o (kill ts ++ .tok f (some ⟨bif b && allDeep tok ts then 3 else 2, E, e, B, rows⟩) :: ret o (.v false [.tk f])) else none
        | none => none
      | none => none
    | _ => none
  | .load T x => loadDet P o T (ev x) box tok
  | .store T x y => storeDet P o T (ev x) (ev y) box tok
  | .nilCheck x => match ev x with
    | .lp b off => okD o (ret o (.lp b off))
    | .cp xs i off => okD o (ret o (.cp xs i off))
    | .ep t i off => match tok t with
      | some _ => okD o (ret o (.ep t i off))
      | none => none
    | .fn g cs => okD o (ret o (.fn g cs))
    | _ => none
  | .binOp op T x y _ => match binDet P T op (ev x) (ev y) with
    | some (φ, s) => some ⟨[], fun _ => (φ, ret o s)⟩
    | none => none
  | .unOp .not _ x => match ev x with
    | .v false [.c (.bool b)] => okD o (ret o (bval (!b)))
    | _ => none
  | .convert src dst x => convDet P o src dst (ev x) tok
  | .makeFunc (.func g) first captured => bif Nat.beq first.size 0 then match capsOf (captured.toList.map ev) with
      | some cs => okD o (ret o (.fn g cs))
      | none => none
    else none
  | .makeSlice T l c => makeSliceDet P o f T (ev l) (ev c)
  | .slice T x lo hi mx => match mx with
    | some _ => none
    | none => sliceDet P o T (ev x) (lo.map ev) (hi.map ev)
  | .fieldAddr S x i => match fieldOff P S i with
    | some fo => match ev x with
      | .lp b off => okD o (ret o (.lp b (off + fo)))
      | .cp xs i off => okD o (ret o (.cp xs i (off + fo)))
      | .ep t i off => match tok t with
        | some _ => okD o (ret o (.ep t i (off + fo)))
        | none => none
      | _ => none
    | none => none
  | .indexAddr T x i => match P.underlying T with
    | some (.slice E) => bif Nat.beq (P.cellsOf E) 0 then none else indexDet P o E (ev x) (ev i) tok
    | _ => none
  | .index T x i => match P.underlying T with
    | some .string => match ev x, ev i with
      | .v false [.c (.str s)], .v false [.c (.int .i64 n)] => some ⟨[], fun _ => (some (0 ≤ n ∧ n < s.length), ret o (ival .u8 (s.getD n.toNat 0).toNat))⟩
      | _, _ => none
    | _ => none
  | .extract x i => match extractSlot (ev x) i with
    | some s => okD o (ret o s)
    | none => none
  | .call c => match c.callee with
    | .builtin .len => match c.args.toList, c.argTypes.toList with
      | [x], T :: _ => match lenOfSlot P T tok (ev x) with
        | some n => okD o (ret o (ival .i64 n))
        | none => none
      | _, _ => none
    | .builtin .append => match c.args.toList, c.argTypes.toList with
      | [x, y], [Ts, Tx] => appendDet P o f Ts Tx (ev x) (ev y) tok
      | _, _ => none
    | .builtin .max => match maxSlot true (c.args.toList.map ev) with
      | some s => okD o (ret o s)
      | none => none
    | .builtin .min => match maxSlot false (c.args.toList.map ev) with
      | some s => okD o (ret o s)
      | none => none
    | _ => none
  | _ => none

def ExP : (ks : List CK) → (List D → Prop) → Prop
  | [], K => K []
  | .int k :: r, K => ∃ n : Int, ExP r (fun ds => K (.int k n :: ds))
  | .bool :: r, K => ∃ b : Bool, ExP r (fun ds => K (.bool b :: ds))
  | .str :: r, K => ∃ s : List UInt8, ExP r (fun ds => K (.str s :: ds))
  | .sl _ _ B :: r, K => ∃ xs : List (List D), ExP r (fun ds => K (.sl B xs :: ds))


end Go.Gl
