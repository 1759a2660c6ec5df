/- The logic's contracts of calls, and its run over a function's code, from one loop's head to the next. -/
import Derived.Test.YtfkeggikdeenbaaL22
set_option linter.unusedVariables false
namespace Go.Gl
open Go.RowKit

inductive ACell where
  | any
  | c (d : D)
  | nil
  | own (t : Tok)

inductive Arg where
  | val (agg : Bool) (cs : List ACell)
  | box (cs : List ACell)
  | fn (f : Nat) (caps : List (List ACell))

def alook {α : Type} : List (Nat × α) → Nat → Option α
  | [], _ => none
  | (k, v) :: r, i => bif Nat.beq i k then some v else alook r i

/-- A state told by lists. -/
def St.of (slots : List (Nat × Slot)) (boxes : List (Nat × List Cell)) (toks : List (Nat × Tok)) (base n : Nat) : St :=
  { slot := fun i => (alook slots i).getD .any, box := alook boxes, tok := alook toks, base := base, n := n }

/-- How many slices of its own these cells hold; the cells, where these are named from f on; the names. -/
def cntA : List ACell → Nat
  | [] => 0
  | .any :: r => cntA r
  | .c _ :: r => cntA r
  | .nil :: r => cntA r
  | .own _ :: r => cntA r + 1

def nameA : Nat → List ACell → List Cell
  | _, [] => []
  | f, .any :: r => .any :: nameA f r
  | f, .c d :: r => .c d :: nameA f r
  | f, .nil :: r => .nil :: nameA f r
  | f, .own _ :: r => .tk f :: nameA (f + 1) r

def toksA : Nat → List ACell → List Upd
  | _, [] => []
  | f, .any :: r => toksA f r
  | f, .c _ :: r => toksA f r
  | f, .nil :: r => toksA f r
  | f, .own t :: r => .tok f (some t) :: toksA (f + 1) r

def cntL : List (List ACell) → Nat
  | [] => 0
  | x :: r => cntA x + cntL r

def natsFrom : Nat → Nat → List Nat
  | _, 0 => []
  | i, n + 1 => i :: natsFrom (i + 1) n

def capUpds : Nat → Nat → List (List ACell) → List Upd
  | _, _, [] => []
  | nb, nt, x :: r => toksA nt x ++ .box nb (nameA nt x) :: capUpds (nb + 1) (nt + cntA x) r

def argUpds : Nat → Nat → Nat → List Arg → List Upd
  | _, _, _, [] => []
  | i, nb, nt, .val b x :: r => toksA nt x ++ .slot i (.v b (nameA nt x)) :: argUpds (i + 1) nb (nt + cntA x) r
  | i, nb, nt, .box x :: r => toksA nt x ++ .box nb (nameA nt x) :: .slot i (.lp nb 0) :: argUpds (i + 1) (nb + 1) (nt + cntA x) r
  | i, nb, nt, .fn f caps :: r => capUpds nb nt caps ++ .slot i (.fn f (natsFrom nb caps.length)) :: argUpds (i + 1) (nb + caps.length) (nt + cntL caps) r

def argBoxes : List Arg → Nat
  | [] => 0
  | .val _ _ :: r => argBoxes r
  | .box _ :: r => argBoxes r + 1
  | .fn _ caps :: r => caps.length + argBoxes r

def argToks : List Arg → Nat
  | [] => 0
  | .val _ x :: r => cntA x + argToks r
  | .box x :: r => cntA x + argToks r
  | .fn _ caps :: r => cntL caps + argToks r

/-- The state in which a call begins. -/
def initSt (args : List Arg) (n : Nat) : St := (St.of [] [] [] 1000 n).apps (argUpds 0 0 500 args)

/-- What a result's cell is: read only, or the caller's own. -/
inductive RK where
  | c (k : CK)
  | own (L T e B : Nat)

def RK.kind : RK → CK
  | .c k => k
  | .own _ T e B => .sl T e B

structure Sig where
  res : List (Bool × List RK)
  bx : List (List RK)

def resKinds : List (Bool × List RK) → List CK
  | [] => []
  | x :: r => x.2.map RK.kind ++ resKinds r

def bxKinds : List (List RK) → List CK
  | [] => []
  | x :: r => x.map RK.kind ++ bxKinds r

def Sig.kinds (s : Sig) : List CK := resKinds s.res ++ bxKinds s.bx

/-- What a law says of data of these kinds. -/
def Pay : List CK → Type
  | [] => Prop
  | .int _ :: r => Int → Pay r
  | .bool :: r => Bool → Pay r
  | .str :: r => List UInt8 → Pay r
  | .sl _ _ _ :: r => List (List D) → Pay r

def Pay.app : (ks : List CK) → Pay ks → List D → Prop
  | [], p, [] => p
  | .int k :: r, p, .int k' n :: ds => match Nat.beq k.ctorIdx k'.ctorIdx with
    | true => Pay.app r (p n) ds
    | false => False
  | .bool :: r, p, .bool b :: ds => Pay.app r (p b) ds
  | .str :: r, p, .str s :: ds => Pay.app r (p s) ds
  | .sl _ _ B :: r, p, .sl B' xs :: ds => match Nat.beq B B' with
    | true => Pay.app r (p xs) ds
    | false => False
  | _, _, _ => False

def Pay.abs : (ks : List CK) → (List D → Prop) → Pay ks
  | [], K => K []
  | .int k :: r, K => fun n => Pay.abs r (fun ds => K (.int k n :: ds))
  | .bool :: r, K => fun b => Pay.abs r (fun ds => K (.bool b :: ds))
  | .str :: r, K => fun s => Pay.abs r (fun ds => K (.str s :: ds))
  | .sl _ _ B :: r, K => fun xs => Pay.abs r (fun ds => K (.sl B xs :: ds))

def mkACells : List RK → List D → List ACell × List D
  | [], ds => ([], ds)
  | .c _ :: r, d :: ds => let x := mkACells r ds; (.c d :: x.1, x.2)
  | .own L T e B :: r, .sl _ xs :: ds => let x := mkACells r ds; (.own ⟨L, T, e, B, xs⟩ :: x.1, x.2)
  | _ :: r, ds => let x := mkACells r ds; (.any :: x.1, x.2)

def mkVals : List (Bool × List RK) → List D → List (Bool × List ACell) × List D
  | [], ds => ([], ds)
  | x :: r, ds => let y := mkACells x.2 ds; let z := mkVals r y.2; ((x.1, y.1) :: z.1, z.2)

def mkBxs : List (List RK) → List D → List (List ACell)
  | [], _ => []
  | x :: r, ds => let y := mkACells x ds; y.1 :: mkBxs r y.2

def valUpds : Nat → List (Bool × List ACell) → List Upd
  | _, [] => []
  | f, x :: r => toksA f x.2 ++ valUpds (f + cntA x.2) r

def valSlots : Nat → List (Bool × List ACell) → List (Bool × List Cell)
  | _, [] => []
  | f, x :: r => (x.1, nameA f x.2) :: valSlots (f + cntA x.2) r

def cntV : List (Bool × List ACell) → Nat
  | [] => 0
  | x :: r => cntA x.2 + cntV r

def bxUpds : Nat → List Nat → List (List ACell) → List Upd
  | f, b :: bs, x :: r => toksA f x ++ .box b (nameA f x) :: bxUpds (f + cntA x) bs r
  | _, _, _ => []

def offs : List Nat → List Upd
  | [] => []
  | b :: bs => .off b :: offs bs

def packRes (rs : List Value) : Value :=
  match rs with
  | [v] => v
  | rs => .tuple rs.toArray

/-- What a cell is in memory, and what cells of memory it owns. -/
inductive ARep (w : World) (K : CS) : ACell → Value → CS → Prop
  | any {v : Value} (h : v.oneCell' = true) : ARep w K .any v (fun _ _ => False)
  | c {d : D} {v : Value} (h : RepD w K d v) : ARep w K (.c d) v (fun _ _ => False)
  | nil : ARep w K .nil (.slice none 0 0) (fun _ _ => False)
  | own {t : Tok} {v : Value} {F : CS} (h : TokRep w K t v F) : ARep w K (.own t) v F

inductive ARepL (w : World) (K : CS) : List ACell → List Value → List CS → Prop
  | nil : ARepL w K [] [] []
  | cons {c : ACell} {v : Value} {F : CS} {cs : List ACell} {vs : List Value} {Fs : List CS} (h : ARep w K c v F) (t : ARepL w K cs vs Fs) : ARepL w K (c :: cs) (v :: vs) (F :: Fs)

inductive AVal (w : World) (K : CS) : Bool → List ACell → Value → List CS → Prop
  | one {c : ACell} {v : Value} {F : CS} (h : ARep w K c v F) : AVal w K false [c] v [F]
  | agg {cs : List ACell} {arr : Array Value} {Fs : List CS} (h : ARepL w K cs arr.toList Fs) : AVal w K true cs (.agg arr) Fs

def blk (g : Nat) : CS := fun b _ => b = g

inductive BRepL (w : World) (K : CS) : List (List ACell) → List Nat → List CS → Prop
  | nil : BRepL w K [] [] []
  | cons {cs : List ACell} {g : Nat} {arr : Array Value} {T : TypeId} {Fs : List CS} {xs : List (List ACell)} {gs : List Nat} {Ls : List CS} (hh : w.heap[g]? = some (.cells arr T (0, 0))) (h : ARepL w K cs arr.toList Fs) (t : BRepL w K xs gs Ls) :
      BRepL w K (cs :: xs) (g :: gs) (blk g :: Fs ++ Ls)

def ptrs (gs : List Nat) : Array Value := (gs.map fun g => Value.pointer (some ⟨g, 0, none⟩)).toArray

inductive InRep (w : World) (K : CS) : List Arg → List Value → List Nat → List CS → Prop
  | nil : InRep w K [] [] [] []
  | val {b : Bool} {cs : List ACell} {v : Value} {Fs : List CS} {as : List Arg} {vs : List Value} {gs : List Nat} {Ls : List CS} (h : AVal w K b cs v Fs) (t : InRep w K as vs gs Ls) : InRep w K (.val b cs :: as) (v :: vs) gs (Fs ++ Ls)
  | box {cs : List ACell} {g : Nat} {Fs : List CS} {as : List Arg} {vs : List Value} {gs : List Nat} {Ls : List CS} (h : BRepL w K [cs] [g] Fs) (t : InRep w K as vs gs Ls) : InRep w K (.box cs :: as) (.pointer (some ⟨g, 0, none⟩) :: vs) (g :: gs) (Fs ++ Ls)
  | fn {f : Nat} {caps : List (List ACell)} {hs : List Nat} {Fs : List CS} {as : List Arg} {vs : List Value} {gs : List Nat} {Ls : List CS} (h : BRepL w K caps hs Fs) (t : InRep w K as vs gs Ls) :
      InRep w K (.fn f caps :: as) (.func (.func f) #[] (ptrs hs) :: vs) (hs ++ gs) (Fs ++ Ls)

inductive ResRep (w : World) (K : CS) : List (Bool × List ACell) → List Value → List CS → Prop
  | nil : ResRep w K [] [] []
  | cons {x : Bool × List ACell} {v : Value} {Fs : List CS} {xs : List (Bool × List ACell)} {vs : List Value} {Ls : List CS} (h : AVal w K x.1 x.2 v Fs) (t : ResRep w K xs vs Ls) : ResRep w K (x :: xs) (v :: vs) (Fs ++ Ls)

/-- What is read and what is owned lie apart, and are there. -/
structure Good (w : World) (K : CS) (Ls : List CS) : Prop where
  k : ∀ F ∈ Ls, ∀ b o, F b o → ¬ K b o
  d : Ls.Pairwise fun F G => ∀ b o, F b o → ¬ G b o
  lt : ∀ b o, K b o → b < w.heap.size

def uni (Ls : List CS) : CS := fun b o => ∃ F ∈ Ls, F b o

/-- A contract: called at arguments that read so, the function returns, and R holds of what it returns and leaves. -/
structure C (P : Program) (f : FuncId) (args : List Arg) (sg : Sig) (R : Pay sg.kinds) : Prop where
  run : ∀ (w : World) (K : CS) (vs : List Value) (gs : List Nat) (Ls : List CS), InRep w K args vs gs Ls → Good w K Ls →
    Calls P f vs.toArray w fun e w' => ∃ ds rs K' L1 L2, Pay.app sg.kinds R ds ∧ e = .returned (packRes rs) ∧ ResRep w' K' (mkVals sg.res ds).1 rs L1 ∧ BRepL w' K' (mkBxs sg.bx (mkVals sg.res ds).2) gs L2 ∧ Good w' K' (L1 ++ L2) ∧
      Unch w w' (uni Ls) ∧ (∀ b o, K' b o → K b o ∨ Al w (uni Ls) b o) ∧ ∀ F ∈ L1 ++ L2, ∀ b o, F b o → Al w (uni Ls) b o

structure Keep where
  s : Nat
  ty : List (Option (Nat × Nat × Nat))

structure Head where
  hb : Nat
  L : Nat
  ks : List Keep

structure Cx where
  P : Program
  sg : Nat → Sig
  mv : Nat → List Nat
  head : Nat → Head
  ord : Nat → List Nat

/-- A cell handed over: as a datum that is read, or (mv) with what it owns. The tokens that are given up, and those that are read. -/
def Cell.toA (tok : Nat → Option Tok) (mv : Bool) (k : CK) : Cell → Option (ACell × List Nat × List Nat)
  | .any => none
  | .c d => some (.c d, [], [])
  | .nil => match mv, k with
    | true, _ => some (.nil, [], [])
    | false, .sl _ _ B => some (.c (.sl B []), [], [])
    | _, _ => none
  | .tk t => match tok t with
    | some q => match mv with
      | true => some (.own q, [t], [])
      | false => some (.c (.sl q.B q.xs), [], [t])
    | none => none

def cellsToA (tok : Nat → Option Tok) (mv : Bool) : List CK → List Cell → Option (List ACell × List Nat × List Nat)
  | [], [] => some ([], [], [])
  | k :: ks, c :: cs => match c.toA tok mv k, cellsToA tok mv ks cs with
    | some (a, g, l), some (as, gs, ls) => some (a :: as, g ++ gs, l ++ ls)
    | _, _ => none
  | _, _ => none

/-- A box handed over: with all that it owns. -/
def boxToA (tok : Nat → Option Tok) : List Cell → Option (List ACell × List Nat)
  | [] => some ([], [])
  | .any :: r => (boxToA tok r).map fun x => (.any :: x.1, x.2)
  | .c d :: r => (boxToA tok r).map fun x => (.c d :: x.1, x.2)
  | .nil :: r => (boxToA tok r).map fun x => (.nil :: x.1, x.2)
  | .tk t :: r => match tok t, boxToA tok r with
    | some q, some x => some (.own q :: x.1, t :: x.2)
    | _, _ => none

structure Handed where
  args : List Arg
  gone : List Nat
  lent : List Nat
  boxes : List Nat

def boxesToA (box : Nat → Option (List Cell)) (tok : Nat → Option Tok) : List Nat → Option (List (List ACell) × List Nat)
  | [] => some ([], [])
  | b :: r => match box b with
    | some cs => match boxToA tok cs, boxesToA box tok r with
      | some (as, g), some (bs, gs) => some (as :: bs, g ++ gs)
      | _, _ => none
    | none => none

def handArgs (P : Program) (mv : List Nat) (box : Nat → Option (List Cell)) (tok : Nat → Option Tok) : Nat → List (Slot × TypeId) → Option Handed
  | _, [] => some ⟨[], [], [], []⟩
  | i, (s, T) :: r => match handArgs P mv box tok (i + 1) r with
    | none => none
    | some h => match s with
      | .v b cs => match layD P T with
        | some ks => match cellsToA tok (mv.elem i) ks cs with
          | some (as, g, l) => some ⟨.val b as :: h.args, g ++ h.gone, l ++ h.lent, h.boxes⟩
          | none => none
        | none => none
      | .lp b 0 => match box b with
        | some cs => match boxToA tok cs with
          | some (as, g) => some ⟨.box as :: h.args, g ++ h.gone, h.lent, b :: h.boxes⟩
          | none => none
        | none => none
      | .fn f caps => match boxesToA box tok caps with
        | some (bs, g) => some ⟨.fn f bs :: h.args, g ++ h.gone, h.lent, caps ++ h.boxes⟩
        | none => none
      | _ => none

def capSlots : List Nat → List (Slot × TypeId)
  | [] => []
  | b :: r => (.lp b 0, 0) :: capSlots r

/-- May the function be entered? -/
def enterB (P : Program) (g : Nat) : Bool :=
  match P.funcs[g]? with
  | some fn => !(fn.name == "runtime.NumGoroutine") && fn.body.isSome
  | none => false

/-- What a call leaves. f: the first free name. -/
def callUpds (o : Oper) (f : Nat) (tok : Nat → Option Tok) (h : Handed) (sg : Sig) (ds : List D) : List Upd :=
  let v := mkVals sg.res ds
  toksDown tok 1 h.lent ++ (kill h.gone ++ (offs h.boxes ++ (valUpds f v.1 ++ (bxUpds (f + cntV v.1) h.boxes (mkBxs sg.bx v.2) ++ ret o (match valSlots f v.1 with | [z] => .v z.1 z.2 | l => .tup l)))))

def sigOwn : List RK → Nat
  | [] => 0
  | .c _ :: r => sigOwn r
  | .own _ _ _ _ :: r => sigOwn r + 1

def sigCnt (sg : Sig) : Nat := (sg.res.map fun x => sigOwn x.2).sum + (sg.bx.map sigOwn).sum

def callStep (cx : Cx) (chk : List Upd → Bool) (c : Call) (o : Oper) (f : Nat) (st : St) (K : St → Prop) : Prop :=
  match c.callee with
  | .value g => match st.ev g with
    | .fn g caps => match handArgs cx.P (cx.mv g) st.box st.tok 0 ((c.args.toList.map st.ev).zip c.argTypes.toList ++ capSlots caps) with
      | some h => match enterB cx.P g && Nat.beq c.args.size c.argTypes.size && distinct h.boxes && distinct h.gone && h.gone.all (fun t => !(h.lent.elem t)) && Nat.beq h.boxes.length (cx.sg g).bx.length && Nat.ble (sigCnt (cx.sg g)) 16 with
        | true => C cx.P g h.args (cx.sg g) (Pay.abs (cx.sg g).kinds fun ds => match chk (callUpds o f st.tok h (cx.sg g) ds) with
          | true => K (st.apps (callUpds o f st.tok h (cx.sg g) ds))
          | false => False)
        | false => False
      | none => False
    | _ => False
  | _ => False

def detStep (chk : List Upd → Bool) (d : Option Det) (st : St) (K : St → Prop) : Prop :=
  match d with
  | none => False
  | some d => ExP d.ks fun ds => match chk (d.body ds).2 with
    | true => match (d.body ds).1 with
      | none => K (st.apps (d.body ds).2)
      | some φ => φ ∧ K (st.apps (d.body ds).2)
    | false => False

def isCallOp (o : Oper) : Option Call :=
  match o.op with
  | .call c => match c.callee with
    | .value _ => some c
    | _ => none
  | _ => none

def opStep (cx : Cx) (chk : List Upd → Bool) (o : Oper) (f : Nat) (st : St) (K : St → Prop) : Prop :=
  match isCallOp o with
  | some c => callStep cx chk c o f st K
  | none => detStep chk (opDet cx.P o f st.ev st.box st.tok) st K

/-- Is the operation's place the guard of another one? -/
def isGuard (ops : List Oper) (j : Nat) : Bool :=
  ops.any fun o => match o.guard with
    | some (i, _) => Nat.beq i j
    | none => false

def splitOn (o : Oper) (st : St) (K : St → Prop) : Prop :=
  match o.dst with
  | some d => match st.slot d with
    | .v false [.c (.bool b)] => (b = true → K (st.app (.slot d (bval true)))) ∧ (b = false → K (st.app (.slot d (bval false))))
    | _ => False
  | none => False

def guardVal (ops : List Oper) (st : St) (o : Oper) : Option Bool :=
  match o.guard with
  | none => some true
  | some (j, want) => match (ops[j]?).bind (·.dst) with
    | some d => match st.slot d with
      | .v false [.c (.bool b)] => some (bif want then b else !b)
      | _ => none
    | none => none

def oneStep (cx : Cx) (chk : List Upd → Bool) (ops : List Oper) (i : Nat) (o : Oper) (f : Nat) (st : St) (K : St → Prop) : Prop :=
  match guardVal ops st o with
  | some true => opStep cx chk o f st fun st' => bif isGuard ops i then splitOn o st' K else K st'
  | some false => match o.dst with
    | some d => K (st.app (.slot d .any))
    | none => K st
  | none => False

def yes : List Upd → Bool := fun _ => true

def runOps (cx : Cx) (ops : List Oper) (base : Nat) : List Nat → St → (St → Prop) → Prop
  | [], st, K => K st
  | i :: r, st, K => match ops[i]? with
    | some o => oneStep cx yes ops i o (base + 16 * i) st fun st' => runOps cx ops base r st' K
    | none => False

/-! Regions whose order is drawn: one order is run; it is looked at whether the others do the same. -/

def opnds (o : Oper) : List Operand :=
  match o.op with
  | .move x => [x]
  | .assign x => [x]
  | .pick c a b => [c, a, b]
  | .box _ x => [x]
  | .build _ ps => ps.toList.map (·.2)
  | .buildSlice _ _ ps => ps.toList.map (·.2)
  | .load _ x => [x]
  | .store _ x y => [x, y]
  | .nilCheck x => [x]
  | .binOp _ _ x y _ => [x, y]
  | .unOp _ _ x => [x]
  | .convert _ _ x => [x]
  | .makeFunc _ fs cs => fs.toList ++ cs.toList
  | .makeSlice _ l c => [l, c]
  | .slice _ x lo hi _ => x :: (lo.toList ++ hi.toList)
  | .fieldAddr _ x _ => [x]
  | .indexAddr _ x i => [x, i]
  | .index _ x i => [x, i]
  | .extract x _ => [x]
  | .call c => match c.callee with
    | .value g => g :: c.args.toList
    | _ => c.args.toList
  | _ => []

def tmpsOf : List Operand → List Nat
  | [] => []
  | .tmp t :: r => t :: tmpsOf r
  | _ :: r => tmpsOf r

def cellKeys : List Cell → List Nat
  | [] => []
  | .tk t :: r => t :: cellKeys r
  | _ :: r => cellKeys r

def slotKeys : Slot → List Nat
  | .any => []
  | .v _ cs => cellKeys cs
  | .tup xs => xs.flatMap fun x => cellKeys x.2
  | .lp b _ => [b]
  | .cp _ _ _ => []
  | .ep t _ _ => [t]
  | .fn _ caps => caps
  | .un _ _ => []

def boxKeys (box : Nat → Option (List Cell)) (l : List Nat) : List Nat := l.flatMap fun b => match box b with
  | some cs => cellKeys cs
  | none => []

def keysOf (l : List Operand) (st : St) : List Nat :=
  let k := l.flatMap fun x => slotKeys (st.ev x)
  k ++ boxKeys st.box k

/-- Does the operation pass values on, without a look at memory? -/
def slotOnly (o : Oper) : Bool :=
  match o.op with
  | .move _ => true
  | .assign _ => true
  | .extract _ _ => true
  | _ => false

def opKeys (o : Oper) (st : St) : List Nat := bif slotOnly o then [] else keysOf (opnds o) st

def pureOp (o : Oper) : Bool :=
  match o.op with
  | .alloc _ => false
  | .box _ _ => false
  | .buildSlice _ _ _ => false
  | .store _ _ _ => false
  | .makeSlice _ _ _ => false
  | .call c => match c.callee with
    | .builtin .len => true
    | .builtin .max => true
    | .builtin .min => true
    | _ => false
  | _ => true

/-- Are these all the places that the operation may change? -/
def okU (o : Oper) (f : Nat) (ks : List Nat) (us : List Upd) : Bool :=
  us.all fun u => match u with
    | .slot s _ => match o.dst with
      | some d => Nat.beq s d
      | none => false
    | .box b _ => !(pureOp o) && (ks.elem b || (Nat.ble f b && Nat.blt b (f + 16)))
    | .tok b _ => !(pureOp o) && (ks.elem b || (Nat.ble f b && Nat.blt b (f + 16)))
    | .off b => !(pureOp o) && (ks.elem b || (Nat.ble f b && Nat.blt b (f + 16)))

/-- The slots that the operation reads. -/
def reads (ops : List Oper) (o : Oper) : List Nat :=
  match o.guard with
  | some (j, _) => match (ops[j]?).bind (·.dst) with
    | some d => d :: tmpsOf (opnds o)
    | none => tmpsOf (opnds o)
  | none => tmpsOf (opnds o)

def notIn (d : Option Nat) (l : List Nat) : Bool :=
  match d with
  | some d => !(l.elem d)
  | none => true

def otherD (d e : Option Nat) : Bool :=
  match d, e with
  | some d, some e => !(Nat.beq d e)
  | _, _ => true

/-- May j, which stands behind i, be done before i? -/
def pairOk (ops : List Oper) (base : Nat) (p : Nat × List Nat) (j : Nat) (oj : Oper) (kj : List Nat) : Bool :=
  match ops[p.1]? with
  | some oi => (match isCallOp oi with | some _ => false | none => true) && (notIn oi.dst (reads ops oj) && (notIn oj.dst (reads ops oi) && (otherD oi.dst oj.dst &&
      ((pureOp oi && pureOp oj) || (kj.all (fun k => !(p.2.elem k) && !(Nat.ble (base + 16 * p.1) k && Nat.blt k (base + 16 * p.1 + 16))) && p.2.all (fun k => !(Nat.ble (base + 16 * j) k && Nat.blt k (base + 16 * j + 16))))))))
  | none => false

def depsOf (o : Oper) : List Nat := (o.after.toList.filter fun e => match e.ground with | .textOnly _ => false | .gcOnly _ => false | _ => true).map (·.on)

def orAll (m : Nat → Nat) : List Nat → Nat
  | [] => 0
  | e :: r => Nat.lor (Nat.lor (Nat.shiftLeft 1 e) (m e)) (orAll m r)

/-- Which operations are done before an operation in any order: bits of a number. -/
def masks (ops : List Oper) : List Nat → List (Nat × Nat) → List (Nat × Nat)
  | [], m => m
  | j :: r, m => masks ops r ((j, orAll (fun e => (alook m e).getD 0) (match ops[j]? with | some o => depsOf o | none => [])) :: m)

def maskOf (m : List (Nat × Nat)) (j : Nat) : Nat := (alook m j).getD 0

def maskOk (ops : List Oper) (m : List (Nat × Nat)) : Bool :=
  (List.range ops.length).all fun j => match ops[j]? with
    | some o => Nat.beq (maskOf m j) (orAll (maskOf m) (depsOf o))
    | none => true

def topo (ops : List Oper) : List Nat → Bool
  | [] => true
  | j :: r => (match ops[j]? with | some o => (depsOf o).all (fun e => !(Nat.beq e j) && (!(r.elem e) && Nat.blt e ops.length)) | none => false) && topo ops r

/-- Does all that stands behind a call wait for it? -/
def callsOk (ops : List Oper) (m : List (Nat × Nat)) : List Nat → Bool
  | [] => true
  | i :: r => (match ops[i]? with
    | some o => match isCallOp o with
      | some _ => r.all fun j => Nat.testBit (maskOf m j) i
      | none => true
    | none => false) && callsOk ops m r

/-- Is this an order of all the operations? -/
def orderOk (ops : List Oper) (l : List Nat) : Bool := Nat.beq l.length ops.length && (distinct l && (topo ops l && (List.range ops.length).all fun i => l.elem i))

def runD (cx : Cx) (ops : List Oper) (base : Nat) (m : List (Nat × Nat)) : List (Nat × List Nat) → List Nat → St → (St → Prop) → Prop
  | _, [], st, K => K st
  | pre, j :: r, st, K => match ops[j]? with
    | none => False
    | some o => match pre.all fun p => Nat.testBit (maskOf m j) p.1 || pairOk ops base p j o (opKeys o st) with
      | true => oneStep cx (okU o (base + 16 * j) (opKeys o st)) ops j o (base + 16 * j) st fun st' => runD cx ops base m ((j, opKeys o st) :: pre) r st' K
      | false => False

def runDraw (cx : Cx) (ops : List Oper) (l : List Nat) (st : St) (K : St → Prop) : Prop :=
  let m := masks ops l []
  match orderOk ops l && (maskOk ops m && callsOk ops m l) with
  | true => runD cx ops st.base m [] l st K
  | false => False

structure Norm where
  nt : Nat
  ren : List (Nat × Nat)
  slots : List (Nat × Slot)
  boxes : List (Nat × List Cell)
  toks : List (Nat × Tok)

def normCell (L : Nat) (tok : Nat → Option Tok) (ty : Option (Nat × Nat × Nat)) (s : Norm) : Cell → Option (Cell × Norm)
  | .any => some (.any, s)
  | .c d => some (.c d, s)
  | .nil => match ty with
    | none => some (.nil, s)
    | some (T, e, B) => some (.tk s.nt, { s with nt := s.nt + 1, toks := (s.nt, ⟨L, T, e, B, []⟩) :: s.toks })
  | .tk t => match alook s.ren t with
    | some t' => some (.tk t', s)
    | none => match tok t with
      | some q => bif Nat.ble L q.L then some (.tk s.nt, { s with nt := s.nt + 1, ren := (t, s.nt) :: s.ren, toks := (s.nt, { q with L := L }) :: s.toks }) else none
      | none => some (.any, s)

def normCells (L : Nat) (tok : Nat → Option Tok) (s : Norm) : List (Option (Nat × Nat × Nat)) → List Cell → Option (List Cell × Norm)
  | _, [] => some ([], s)
  | ty, c :: cs => match normCell L tok (ty.headD none) s c with
    | some (c', s') => match normCells L tok s' ty.tail cs with
      | some (cs', s'') => some (c' :: cs', s'')
      | none => none
    | none => none

def normBoxes (L : Nat) (hb : Nat) (st : St) (ty : List (Option (Nat × Nat × Nat))) (s : Norm) : List Nat → Option Norm
  | [] => some s
  | b :: bs => match alook s.boxes b with
    | some _ => normBoxes L hb st ty s bs
    | none => match Nat.blt b hb, st.box b with
      | true, some cs => match normCells L st.tok s ty cs with
        | some (cs', s') => normBoxes L hb st ty { s' with boxes := (b, cs') :: s'.boxes } bs
        | none => none
      | _, _ => none

def normSlots (L : Nat) (hb : Nat) (st : St) (s : Norm) : List Keep → Option Norm
  | [] => some s
  | k :: ks => match st.slot k.s with
    | .v b cs => match normCells L st.tok s k.ty cs with
      | some (cs', s') => normSlots L hb st { s' with slots := (k.s, .v b cs') :: s'.slots } ks
      | none => none
    | .lp b off => match normBoxes L hb st k.ty s [b] with
      | some s' => normSlots L hb st { s' with slots := (k.s, .lp b off) :: s'.slots } ks
      | none => none
    | .fn f caps => match normBoxes L hb st k.ty s caps with
      | some s' => normSlots L hb st { s' with slots := (k.s, .fn f caps) :: s'.slots } ks
      | none => none
    | .cp xs i off => normSlots L hb st { s with slots := (k.s, .cp xs i off) :: s.slots } ks
    | _ => normSlots L hb st s ks

/-- A state at a loop's head: what is kept alone, under names of the head's own. -/
def norm (h : Head) (st : St) : Option St :=
  match normSlots h.L h.hb st ⟨h.hb, [], [], [], []⟩ h.ks with
  | some s => bif Nat.ble s.nt (h.hb + 64) && (Nat.blt 0 h.L && Nat.ble 1000 h.hb) then some (St.of s.slots s.boxes s.toks (h.hb + 64) st.n) else none
  | none => none

/-- The number of the first region in a piece of code. -/
def rid : Code → Nat
  | .region id _ _ => id
  | .seq a _ => rid a
  | .block _ a => rid a
  | .loop a => rid a
  | .scope a => rid a
  | .cond _ a _ => rid a
  | _ => 0

/-- Are these slots there? -/
def dstOk (ops : List Oper) (n : Nat) : Bool := ops.all fun o => match o.dst with
  | some d => Nat.blt d n
  | none => true

/-- The run of what is still to do: J: at a loop's head; R: at the function's end. -/
def wpt (cx : Cx) (J : List Item → St → Prop) (R : St → Prop) : Nat → List Item → St → Prop
  | 0, _, _ => False
  | n + 1, td, st => match td with
    | [] => R st
    | .inBlock _ :: k => wpt cx J R n k st
    | .inLoop b :: k => match norm (cx.head (rid b)) st with
      | some st' => J (.code b :: .inLoop b :: k) st'
      | none => False
    | .code c :: k => match c with
      | .ret => R st
      | .skip => wpt cx J R n k st
      | .seq a b => wpt cx J R n (.code a :: .code b :: k) st
      | .cond c a b => match st.ev c with
        | .v false [.c (.bool t)] => (t = true → wpt cx J R n (.code a :: k) st) ∧ (t = false → wpt cx J R n (.code b :: k) st)
        | .un xs false => (xs = [] → wpt cx J R n (.code a :: k) st) ∧ wpt cx J R n (.code b :: k) st
        | .un xs true => wpt cx J R n (.code a :: k) st ∧ (xs = [] → wpt cx J R n (.code b :: k) st)
        | _ => False
      | .block id b => wpt cx J R n (.code b :: .inBlock id :: k) st
      | .loop b => match norm (cx.head (rid b)) st with
        | some st' => J (.code b :: .inLoop b :: k) st'
        | none => False
      | .exit id => match exitTo id k with
        | some k' => wpt cx J R n k' st
        | none => False
      | .region id ops draw => match dstOk ops.toList st.n, draw with
        | false, _ => False
        | true, false => runOps cx ops.toList st.base (List.range ops.size) st fun st' => wpt cx J R n k { st' with base := st.base + 16 * ops.size }
        | true, true => runDraw cx ops.toList (cx.ord id) st fun st' => wpt cx J R n k { st' with base := st.base + 16 * ops.size }
      | _ => False
    | _ => False


def retCell (tok : Nat → Option Tok) : RK → Cell → Option (D × List Nat × List Nat)
  | .c _, .c d => some (d, [], [])
  | .c (.sl _ _ B), .nil => some (.sl B [], [], [])
  | .c _, .tk t => match tok t with
    | some q => some (.sl q.B q.xs, [], [t])
    | none => none
  | .own _ _ _ B, .nil => some (.sl B [], [], [])
  | .own L T e B, .tk t => match tok t with
    | some q => bif Nat.blt 0 L && Nat.ble L q.L && Nat.beq q.T T && Nat.beq q.e e && Nat.beq q.B B then some (.sl B q.xs, [t], []) else none
    | none => none
  | _, _ => none

def retCells (tok : Nat → Option Tok) : List RK → List Cell → Option (List D × List Nat × List Nat)
  | [], [] => some ([], [], [])
  | k :: ks, c :: cs => match retCell tok k c, retCells tok ks cs with
    | some (d, o, z), some (ds, os, zs) => some (d :: ds, o ++ os, z ++ zs)
    | _, _ => none
  | _, _ => none

def retVals (tok : Nat → Option Tok) : List (Bool × List RK) → List Slot → Option (List D × List Nat × List Nat)
  | [], [] => some ([], [], [])
  | (b, ks) :: r, .v b' cs :: ss => match Bool.xor b b', retCells tok ks cs, retVals tok r ss with
    | false, some (ds, o, z), some (es, os, zs) => some (ds ++ es, o ++ os, z ++ zs)
    | _, _, _ => none
  | _, _ => none

def retBoxes (st : St) : Nat → List (List RK) → Option (List D × List Nat × List Nat)
  | _, [] => some ([], [], [])
  | b, ks :: r => match st.box b with
    | some cs => match retCells st.tok ks cs, retBoxes st (b + 1) r with
      | some (ds, o, z), some (es, os, zs) => some (ds ++ es, o ++ os, z ++ zs)
      | _, _ => none
    | none => none

def resSlots (P : Program) (st : St) : List ResultVar → Option (List Slot)
  | [] => some []
  | .tmp t :: r => (resSlots P st r).map (st.slot t :: ·)
  | .cell a T :: r => match st.slot a with
    | .lp b off => match st.box b, layD P T, resSlots P st r with
      | some cs, some ks, some l => bif Nat.ble (off + ks.length) cs.length then some (.v (isAggT P T) ((cs.drop off).take ks.length) :: l) else none
      | _, _, _ => none
    | _ => none

/-- What is owed at a function's end. -/
def fin (P : Program) (rv : List ResultVar) (sg : Sig) (R : Pay sg.kinds) (st : St) : Prop :=
  match resSlots P st rv with
  | some ss => match retVals st.tok sg.res ss, retBoxes st 0 sg.bx with
    | some (ds, o, z), some (es, os, zs) => match distinct (o ++ os) && (o ++ os).all (fun t => !((z ++ zs).elem t)) with
      | true => Pay.app sg.kinds R (ds ++ es)
      | false => False
    | _, _ => False
  | none => False


/-- What is to do at the head of the loop with a number. -/
def findL (r : Nat) : Code → List Item → Option (List Item)
  | .seq a b, k => match findL r a (.code b :: k) with
    | some x => some x
    | none => findL r b k
  | .block id a, k => findL r a (.inBlock id :: k)
  | .loop b, k => bif Nat.beq (rid b) r then some (.code b :: .inLoop b :: k) else findL r b (.inLoop b :: k)
  | .cond _ a b, k => match findL r a k with
    | some x => some x
    | none => findL r b k
  | _, _ => none

def td (c : Code) (r : Nat) : List Item := (findL r c []).getD []

end Go.Gl
