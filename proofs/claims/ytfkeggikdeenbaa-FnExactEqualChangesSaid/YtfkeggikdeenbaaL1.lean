/- The words of a small logic over the model: data, cells, ownership, states, and what it means that a state of the logic tells a frame and a world of the model. -/
import Derived.WalkKit
import Derived.ProofKit
import Derived.Below
import Derived.OwnWalk
import Derived.Laws.OwnMore
import Derived.Laws.MakeOwn
import Derived.KernelRfl
import Derived.WalkSpells
import Derived.Great.BuildSlice
import Derived.OpenShut
import Derived.IntWalk
set_option linter.unusedVariables false
namespace Go.Gl

/-- A set of cells: block and offset. -/
abbrev CS := Nat → Nat → Prop

/-- Data. A slice: the bytes of an element's type, and the elements, each a row of cells. -/
inductive D where
  | int (k : IntKind) (n : Int)
  | bool (b : Bool)
  | str (s : List UInt8)
  | sl (B : Nat) (xs : List (List D))

/-- How many bytes a slice's elements may take. -/
def capB : Nat := 140737488355328

/-- A value reads as a datum; all cells that are read lie in K. -/
inductive RepD (w : World) (K : CS) : D → Value → Prop
  | int {k : IntKind} {n : Int} (h : (Lit.int k n).wf = true) : RepD w K (.int k n) (.int k n)
  | bool {b : Bool} : RepD w K (.bool b) (.bool b)
  | str {s : List UInt8} (h : s.length ≤ maxLen) : RepD w K (.str s) (.string ⟨s.toArray⟩)
  | nil {B : Nat} {A : Option Addr} {cap : Nat} : RepD w K (.sl B []) (.slice A 0 cap)
  | sl {B : Nat} {xs : List (List D)} {ad : Addr} {cap : Nat} (e : Nat) (f : Nat → Nat → Value)
      (hs : ad.spot = none) (hb : xs.length * B ≤ capB) (hm : xs.length ≤ maxLen) (hn : xs.length ≤ cap)
      (hx : ∀ (i : Nat) (x : List D), xs[i]? = some x → x.length = e)
      (hc : ∀ (i j : Nat) (x : List D) (d : D), xs[i]? = some x → x[j]? = some d → K ad.block (ad.off + (i * e + j)) ∧ w.cell? ⟨ad.block, ad.off + (i * e + j), none⟩ = some (f i j))
      (hr : ∀ (i j : Nat) (x : List D) (d : D), xs[i]? = some x → x[j]? = some d → RepD w K d (f i j)) :
      RepD w K (.sl B xs) (.slice (some ad) xs.length cap)

/-- A value is the only way to all memory that it leads to: the cells F. -/
inductive DeepD (w : World) : D → Value → CS → Prop
  | int {k : IntKind} {n : Int} (h : (Lit.int k n).wf = true) : DeepD w (.int k n) (.int k n) (fun _ _ => False)
  | bool {b : Bool} : DeepD w (.bool b) (.bool b) (fun _ _ => False)
  | str {s : List UInt8} (h : s.length ≤ maxLen) : DeepD w (.str s) (.string ⟨s.toArray⟩) (fun _ _ => False)
  | nil {B : Nat} : DeepD w (.sl B []) (.slice none 0 0) (fun _ _ => False)
  | sl {B : Nat} {xs : List (List D)} {g cap : Nat} {arr : Array Value} {T : TypeId} (e : Nat) (f : Nat → Nat → Value) (G : Nat → Nat → CS)
      (hh : w.heap[g]? = some (.cells arr T (0, 0))) (hz : arr.size = cap * e) (hn : xs.length ≤ cap) (hcm : cap ≤ maxLen) (hb : xs.length * B ≤ capB)
      (hx : ∀ (i : Nat) (x : List D), xs[i]? = some x → x.length = e)
      (hc : ∀ (i j : Nat) (x : List D) (d : D), xs[i]? = some x → x[j]? = some d → arr[i * e + j]? = some (f i j))
      (hr : ∀ (i j : Nat) (x : List D) (d : D), xs[i]? = some x → x[j]? = some d → DeepD w d (f i j) (G i j))
      (hg : ∀ (i j : Nat) (x : List D) (d : D), xs[i]? = some x → x[j]? = some d → ∀ o, ¬ G i j g o)
      (hd : ∀ (i j : Nat) (x : List D) (d : D) (i' j' : Nat) (x' : List D) (d' : D), xs[i]? = some x → x[j]? = some d → xs[i']? = some x' → x'[j']? = some d' → (i, j) ≠ (i', j') → ∀ b o, G i j b o → ¬ G i' j' b o) :
      DeepD w (.sl B xs) (.slice (some ⟨g, 0, none⟩) xs.length cap)
        (fun b o => (b = g ∧ o < cap * e) ∨ ∃ (i j : Nat) (x : List D) (d : D), xs[i]? = some x ∧ x[j]? = some d ∧ G i j b o)

/-- A slice of the call's own. L: 1: what lies behind its length is its own; 2: its elements' cells, too; 3: all that it leads to. -/
structure Tok where
  L : Nat
  T : Nat
  e : Nat
  B : Nat
  xs : List (List D)

/-- What the slice of a token is in memory; F: the cells that it owns. -/
inductive TokRep (w : World) (K : CS) : Tok → Value → CS → Prop
  | nil {L T e B : Nat} : TokRep w K ⟨L, T, e, B, []⟩ (.slice none 0 0) (fun _ _ => False)
  | one {T e B : Nat} {xs : List (List D)} {g cap : Nat} {arr : Array Value} (f : Nat → Nat → Value)
      (hh : w.heap[g]? = some (.cells arr T (0, 0))) (hz : arr.size = cap * e) (hn : xs.length ≤ cap) (hcm : cap ≤ maxLen) (hb : xs.length * B ≤ capB)
      (hx : ∀ (i : Nat) (x : List D), xs[i]? = some x → x.length = e)
      (hc : ∀ (i j : Nat) (x : List D) (d : D), xs[i]? = some x → x[j]? = some d → arr[i * e + j]? = some (f i j))
      (hk : ∀ (i j : Nat) (x : List D) (d : D), xs[i]? = some x → x[j]? = some d → K g (i * e + j))
      (hr : ∀ (i j : Nat) (x : List D) (d : D), xs[i]? = some x → x[j]? = some d → RepD w K d (f i j)) :
      TokRep w K ⟨1, T, e, B, xs⟩ (.slice (some ⟨g, 0, none⟩) xs.length cap) (fun b o => b = g ∧ xs.length * e ≤ o ∧ o < cap * e)
  | two {T e B : Nat} {xs : List (List D)} {g cap : Nat} {arr : Array Value} (f : Nat → Nat → Value)
      (hh : w.heap[g]? = some (.cells arr T (0, 0))) (hz : arr.size = cap * e) (hn : xs.length ≤ cap) (hcm : cap ≤ maxLen) (hb : xs.length * B ≤ capB)
      (hx : ∀ (i : Nat) (x : List D), xs[i]? = some x → x.length = e)
      (hc : ∀ (i j : Nat) (x : List D) (d : D), xs[i]? = some x → x[j]? = some d → arr[i * e + j]? = some (f i j))
      (hr : ∀ (i j : Nat) (x : List D) (d : D), xs[i]? = some x → x[j]? = some d → RepD w K d (f i j)) :
      TokRep w K ⟨2, T, e, B, xs⟩ (.slice (some ⟨g, 0, none⟩) xs.length cap) (fun b o => b = g ∧ o < cap * e)
  | three {T e B : Nat} {xs : List (List D)} {g cap : Nat} {arr : Array Value} (f : Nat → Nat → Value) (G : Nat → Nat → CS)
      (hh : w.heap[g]? = some (.cells arr T (0, 0))) (hz : arr.size = cap * e) (hn : xs.length ≤ cap) (hcm : cap ≤ maxLen) (hb : xs.length * B ≤ capB)
      (hx : ∀ (i : Nat) (x : List D), xs[i]? = some x → x.length = e)
      (hc : ∀ (i j : Nat) (x : List D) (d : D), xs[i]? = some x → x[j]? = some d → arr[i * e + j]? = some (f i j))
      (hr : ∀ (i j : Nat) (x : List D) (d : D), xs[i]? = some x → x[j]? = some d → DeepD w d (f i j) (G i j))
      (hg : ∀ (i j : Nat) (x : List D) (d : D), xs[i]? = some x → x[j]? = some d → ∀ o, ¬ G i j g o)
      (hd : ∀ (i j : Nat) (x : List D) (d : D) (i' j' : Nat) (x' : List D) (d' : D), xs[i]? = some x → x[j]? = some d → xs[i']? = some x' → x'[j']? = some d' → (i, j) ≠ (i', j') → ∀ b o, G i j b o → ¬ G i' j' b o) :
      TokRep w K ⟨3, T, e, B, xs⟩ (.slice (some ⟨g, 0, none⟩) xs.length cap)
        (fun b o => (b = g ∧ o < cap * e) ∨ ∃ (i j : Nat) (x : List D) (d : D), xs[i]? = some x ∧ x[j]? = some d ∧ G i j b o)

/-- What the logic knows of one cell. -/
inductive Cell where
  | any
  | c (d : D)
  | nil
  | tk (t : Nat)

/-- What the logic knows of a slot. -/
inductive Slot where
  | any
  | v (agg : Bool) (cs : List Cell)
  | tup (xs : List (Bool × List Cell))
  | lp (b off : Nat)
  | cp (xs : List (List D)) (i off : Nat)
  | ep (t i off : Nat)
  | fn (f : Nat) (caps : List Nat)
  | un (xs : List (List D)) (neg : Bool)

structure St where
  slot : Nat → Slot
  box : Nat → Option (List Cell)
  tok : Nat → Option Tok
  base : Nat
  n : Nat

/-- Where the logic's names lie: K: cells that are read and never written; boxes' blocks; tokens' cells and values. -/
structure En where
  K : CS
  FB : Nat → Nat
  FT : Nat → CS
  VT : Nat → Value

inductive CellRep (w : World) (en : En) : Cell → Value → Prop
  | any {v : Value} (h : v.oneCell' = true) : CellRep w en .any v
  | c {d : D} {v : Value} (h : RepD w en.K d v) : CellRep w en (.c d) v
  | nil : CellRep w en .nil (.slice none 0 0)
  | tk {t : Nat} (h : (en.VT t).oneCell' = true) : CellRep w en (.tk t) (en.VT t)

def CellsRep (w : World) (en : En) (cs : List Cell) (arr : Array Value) : Prop :=
  arr.size = cs.length ∧ ∀ (j : Nat) (c : Cell), cs[j]? = some c → ∃ u, arr[j]? = some u ∧ CellRep w en c u

inductive ValRep (w : World) (en : En) : Bool → List Cell → Value → Prop
  | one {c : Cell} {v : Value} (h : CellRep w en c v) : ValRep w en false [c] v
  | agg {cs : List Cell} {arr : Array Value} (h : CellsRep w en cs arr) : ValRep w en true cs (.agg arr)

inductive SlotRep (w : World) (en : En) (tok : Nat → Option Tok) : Slot → Value → Prop
  | any {v : Value} : SlotRep w en tok .any v
  | v {b : Bool} {cs : List Cell} {v : Value} (h : ValRep w en b cs v) : SlotRep w en tok (.v b cs) v
  | tup {xs : List (Bool × List Cell)} {arr : Array Value} (hz : arr.size = xs.length) (h : ∀ (j : Nat) (x : Bool × List Cell), xs[j]? = some x → ∃ u, arr[j]? = some u ∧ ValRep w en x.1 x.2 u) : SlotRep w en tok (.tup xs) (.tuple arr)
  | lp {b off : Nat} : SlotRep w en tok (.lp b off) (.pointer (some ⟨en.FB b, off, none⟩))
  | cp {xs : List (List D)} {i off B cap : Nat} {ad : Addr} {x : List D} (h : RepD w en.K (.sl B xs) (.slice (some ad) xs.length cap)) (hi : xs[i]? = some x) (hs : ad.spot = none) : SlotRep w en tok (.cp xs i off) (.pointer (some ⟨ad.block, ad.off + (i * x.length + off), none⟩))
  | ep {t i off : Nat} {v : Value} (h : ∀ tk, tok t = some tk → i < tk.xs.length ∧ ∃ g n cap, en.VT t = .slice (some ⟨g, 0, none⟩) n cap ∧ v = .pointer (some ⟨g, i * tk.e + off, none⟩)) : SlotRep w en tok (.ep t i off) v
  | fn {f : Nat} {caps : List Nat} : SlotRep w en tok (.fn f caps) (.func (.func f) #[] (caps.map fun b => Value.pointer (some ⟨en.FB b, 0, none⟩)).toArray)
  | un {xs : List (List D)} {b neg : Bool} (h : b ≠ neg → xs = []) : SlotRep w en tok (.un xs neg) (.bool b)

def BoxRep (w : World) (en : En) (g : Nat) (cs : List Cell) : Prop :=
  ∃ arr T, w.heap[g]? = some (.cells arr T (0, 0)) ∧ CellsRep w en cs arr

def ObjU (S : Nat → Prop) (o o' : Obj) : Prop :=
  o' = o ∨ ∃ arr arr' T fr, o = .cells arr T fr ∧ o' = .cells arr' T fr ∧ arr'.size = arr.size ∧ ∀ j, ¬ S j → arr'[j]? = arr[j]?

/-- From w to w' only cells of X have changed; there may be new blocks. -/
structure Unch (w w' : World) (X : CS) : Prop where
  os : w'.os = w.os
  tape : w'.tape = w.tape
  output : w'.output = w.output
  size : w.heap.size ≤ w'.heap.size
  blk : ∀ k o, w.heap[k]? = some o → ∃ o', w'.heap[k]? = some o' ∧ ObjU (X k) o o'

/-- What may be written: new blocks, and W. -/
def Al (w0 : World) (W : CS) : CS := fun b o => w0.heap.size ≤ b ∨ W b o

def Cell.men (i : Nat) : Cell → Prop
  | .tk t => t = i
  | _ => False

def cellsMen (i : Nat) (cs : List Cell) : Prop := ∃ c ∈ cs, c.men i

def Slot.men (i : Nat) : Slot → Prop
  | .v _ cs => cellsMen i cs
  | .tup xs => ∃ x ∈ xs, cellsMen i x.2
  | .lp b _ => b = i
  | .ep t _ _ => t = i
  | .fn _ caps => i ∈ caps
  | _ => False

/-- No name of Fr is in use. -/
structure Unused (st : St) (Fr : Nat → Prop) : Prop where
  slot : ∀ i, Fr i → ∀ s, ¬ (st.slot s).men i
  box : ∀ i, Fr i → st.box i = none
  tok : ∀ i, Fr i → st.tok i = none
  cell : ∀ i, Fr i → ∀ b cs, st.box b = some cs → ¬ cellsMen i cs

/-- What was there at first: the cells that may be read, and the blocks of the boxes with the first m names. -/
structure Kb where
  K : CS
  m : Nat
  G : Nat → Nat
  hm : m ≤ 1000

structure RelE (en : En) (st : St) (Fr : Nat → Prop) (a : Act) (w w0 : World) (W : CS) (K0 : Kb) : Prop where
  free : Unused st Fr
  size : a.tmps.size = st.n
  defers : a.defers = []
  slots : ∀ s, SlotRep w en st.tok (st.slot s) (a.tmps.getD s undef)
  boxes : ∀ b cs, st.box b = some cs → BoxRep w en (en.FB b) cs
  toks : ∀ t tk, st.tok t = some tk → TokRep w en.K tk (en.VT t) (en.FT t)
  bb : ∀ b b' cs cs', st.box b = some cs → st.box b' = some cs' → b ≠ b' → en.FB b ≠ en.FB b'
  bt : ∀ b t cs tk, st.box b = some cs → st.tok t = some tk → ∀ o, ¬ en.FT t (en.FB b) o
  tt : ∀ t t' tk tk', st.tok t = some tk → st.tok t' = some tk' → t ≠ t' → ∀ b o, en.FT t b o → ¬ en.FT t' b o
  kb : ∀ b cs, st.box b = some cs → ∀ o, ¬ en.K (en.FB b) o
  kt : ∀ t tk, st.tok t = some tk → ∀ b o, en.FT t b o → ¬ en.K b o
  ks : ∀ b o, en.K b o → K0.K b o ∨ Al w0 W b o
  kl : ∀ b o, en.K b o → b < w.heap.size
  ba : ∀ b cs, st.box b = some cs → ∀ o, Al w0 W (en.FB b) o
  ta : ∀ t tk, st.tok t = some tk → ∀ b o, en.FT t b o → Al w0 W b o
  un : Unch w0 w W
  fb : ∀ b, b < K0.m → en.FB b = K0.G b ∧ ¬ Fr b

end Go.Gl
