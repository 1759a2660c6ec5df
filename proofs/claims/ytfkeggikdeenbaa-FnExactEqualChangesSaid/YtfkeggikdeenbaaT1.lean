/- Data of the program's types, and how it lies in rows. -/
import Derived.Test.YtfkeggikdeenbaaL39
set_option linter.unusedVariables false
namespace Go.Gl

theorem wrap_id {n : Int} (h1 : -9223372036854775808 ≤ n) (h2 : n < 9223372036854775808) : IntKind.wrap IntKind.i64 n = n := by
  rw [IntKind.wrap_i64]; omega

theorem fact_sl {B : Nat} {xs : List (List D)} (h : DFact (.sl B xs)) : xs.length ≤ 9223372036854775807 ∧ xs.length * B ≤ 140737488355328 := h
theorem fact_str {s : List UInt8} (h : DFact (.str s)) : s.length ≤ 9223372036854775807 := h
theorem fact_int {n : Int} (h : DFact (.int .i64 n)) : -9223372036854775808 ≤ n ∧ n ≤ 9223372036854775807 := by
  have h : (Lit.int .i64 n).wf = true := h
  simp only [Lit.wf, Bool.and_eq_true, decide_eq_true_eq] at h
  simp [IntKind.min, IntKind.max, IntKind.signed, IntKind.bits] at h
  omega

theorem getD_mid {α : Type} (f : α → List D) (pre : List α) (x : α) (post : List α) : ((pre ++ x :: post).map f).getD pre.length [] = f x := by
  simp [List.getD]

/-- A law says no less than another one. -/
def Imp : (ks : List CK) → Pay ks → Pay ks → Prop
  | [], p, q => p → q
  | .int _ :: r, p, q => ∀ n, Imp r (p n) (q n)
  | .bool :: r, p, q => ∀ n, Imp r (p n) (q n)
  | .str :: r, p, q => ∀ n, Imp r (p n) (q n)
  | .sl _ _ _ :: r, p, q => ∀ n, Imp r (p n) (q n)

theorem Imp.app {ks : List CK} : ∀ {p q : Pay ks} (h : Imp ks p q) (ds : List D), Pay.app ks p ds → Pay.app ks q ds := by
  induction ks with
  | nil =>
    intro p q h ds hp
    cases ds with
    | nil => exact h hp
    | cons d ds => exact hp.elim
  | cons k ks ih =>
    intro p q h ds hp
    cases k with
    | int k =>
      cases ds with
      | nil => exact hp.elim
      | cons d ds =>
        cases d with
        | int k' n =>
          have hp : (match Nat.beq k.ctorIdx k'.ctorIdx with | true => Pay.app ks (p n) ds | false => False) := hp
          show (match Nat.beq k.ctorIdx k'.ctorIdx with | true => Pay.app ks (q n) ds | false => False)
          cases hk : Nat.beq k.ctorIdx k'.ctorIdx with
          | false => rw [hk] at hp; exact hp.elim
          | true => rw [hk] at hp; exact ih (h n) ds hp
        | _ => exact hp.elim
    | bool =>
      cases ds with
      | nil => exact hp.elim
      | cons d ds =>
        cases d with
        | bool n => exact ih (p := p n) (q := q n) (h n) ds hp
        | _ => exact hp.elim
    | str =>
      cases ds with
      | nil => exact hp.elim
      | cons d ds =>
        cases d with
        | str n => exact ih (p := p n) (q := q n) (h n) ds hp
        | _ => exact hp.elim
    | sl T e B =>
      cases ds with
      | nil => exact hp.elim
      | cons d ds =>
        cases d with
        | sl B' n =>
          have hp : (match Nat.beq B B' with | true => Pay.app ks (p n) ds | false => False) := hp
          show (match Nat.beq B B' with | true => Pay.app ks (q n) ds | false => False)
          cases hk : Nat.beq B B' with
          | false => rw [hk] at hp; exact hp.elim
          | true => rw [hk] at hp; exact ih (h n) ds hp
        | _ => exact hp.elim

/-- A contract says more than is asked. -/
theorem C.imp {P : Program} {f : FuncId} {args : List Arg} {sg : Sig} {R R' : Pay sg.kinds} (h : C P f args sg R) (hr : Imp sg.kinds R R') : C P f args sg R' := h.mono hr.app

inductive Ty where
  | mk (k : Int) (ar : List Ty)

namespace Ty
def k : Ty → Int | mk k _ => k
def ar : Ty → List Ty | mk _ ar => ar
@[simp] theorem k_mk (k : Int) (ar : List Ty) : (mk k ar).k = k := rfl
@[simp] theorem ar_mk (k : Int) (ar : List Ty) : (mk k ar).ar = ar := rfl
@[simp] theorem mk_eta (t : Ty) : mk t.k t.ar = t := by cases t; rfl
mutual
def row : Ty → List D
  | mk k ar => [.int .i64 k, .sl 32 (rows ar)]
def rows : List Ty → List (List D)
  | [] => []
  | a :: ar => row a :: rows ar
end
theorem rows_map : ∀ ar : List Ty, rows ar = ar.map row
  | [] => rfl
  | a :: ar => by simp [rows, rows_map ar]
theorem row_eq (t : Ty) : row t = [.int .i64 t.k, .sl 32 (t.ar.map row)] := by
  cases t; simp [row, rows_map, k, ar]
theorem ind {P : Ty → Prop} (h : ∀ k ar, (∀ a ∈ ar, P a) → P (mk k ar)) (t : Ty) : P t := by
  refine Ty.rec (motive_1 := P) (motive_2 := fun ar => ∀ a ∈ ar, P a) (fun k ar ih => h k ar ih) (fun _ h => nomatch h) (fun a ar h1 h2 x hx => ?_) t
  rcases List.mem_cons.1 hx with rfl | hx
  · exact h1
  · exact h2 x hx
mutual
def w : Ty → Nat
  | mk k ar => ws ar
def ws : List Ty → Nat
  | [] => 0
  | a :: ar => 1 + w a + ws ar
end
theorem ws_len : ∀ ar : List Ty, ar.length ≤ ws ar
  | [] => Nat.le_refl _
  | a :: ar => by have := ws_len ar; simp only [ws, List.length_cons]; omega
theorem ws_append : ∀ ar bs : List Ty, ws (ar ++ bs) = ws ar + ws bs
  | [], bs => by simp [ws]
  | a :: ar, bs => by simp only [List.cons_append, ws, ws_append ar bs]; omega
end Ty

inductive Ex where
  | mk (k : Int) (nm : List UInt8) (n : Int) (t : Ty) (ar : List Ex)

namespace Ex
def k : Ex → Int | mk k _ _ _ _ => k
def nm : Ex → List UInt8 | mk _ nm _ _ _ => nm
def n : Ex → Int | mk _ _ n _ _ => n
def t : Ex → Ty | mk _ _ _ t _ => t
def ar : Ex → List Ex | mk _ _ _ _ ar => ar
@[simp] theorem k_mk (k : Int) (nm : List UInt8) (n : Int) (t : Ty) (ar : List Ex) : (mk k nm n t ar).k = k := rfl
@[simp] theorem nm_mk (k : Int) (nm : List UInt8) (n : Int) (t : Ty) (ar : List Ex) : (mk k nm n t ar).nm = nm := rfl
@[simp] theorem n_mk (k : Int) (nm : List UInt8) (n : Int) (t : Ty) (ar : List Ex) : (mk k nm n t ar).n = n := rfl
@[simp] theorem t_mk (k : Int) (nm : List UInt8) (n : Int) (t : Ty) (ar : List Ex) : (mk k nm n t ar).t = t := rfl
@[simp] theorem ar_mk (k : Int) (nm : List UInt8) (n : Int) (t : Ty) (ar : List Ex) : (mk k nm n t ar).ar = ar := rfl
@[simp] theorem mk_eta (e : Ex) : mk e.k e.nm e.n e.t e.ar = e := by cases e; rfl
mutual
def row : Ex → List D
  | mk k nm n t ar => [.int .i64 k, .str nm, .int .i64 n, .int .i64 t.k, .sl 32 (t.ar.map Ty.row), .sl 88 (rows ar)]
def rows : List Ex → List (List D)
  | [] => []
  | a :: ar => row a :: rows ar
end
theorem rows_map : ∀ ar : List Ex, rows ar = ar.map row
  | [] => rfl
  | a :: ar => by simp [rows, rows_map ar]
theorem row_eq (e : Ex) : row e = [.int .i64 e.k, .str e.nm, .int .i64 e.n, .int .i64 e.t.k, .sl 32 (e.t.ar.map Ty.row), .sl 88 (e.ar.map row)] := by
  cases e; simp [row, rows_map, k, ar, nm, n, t]
theorem ind {P : Ex → Prop} (h : ∀ k nm n t ar, (∀ a ∈ ar, P a) → P (mk k nm n t ar)) (t : Ex) : P t := by
  refine Ex.rec (motive_1 := P) (motive_2 := fun ar => ∀ a ∈ ar, P a) (fun k nm n t ar ih => h k nm n t ar ih) (fun _ h => nomatch h) (fun a ar h1 h2 x hx => ?_) t
  rcases List.mem_cons.1 hx with rfl | hx
  · exact h1
  · exact h2 x hx
mutual
def w : Ex → Nat
  | mk k nm n t ar => nm.length + t.w + ws ar
def ws : List Ex → Nat
  | [] => 0
  | a :: ar => 1 + w a + ws ar
end
theorem ws_len : ∀ ar : List Ex, ar.length ≤ ws ar
  | [] => Nat.le_refl _
  | a :: ar => by have := ws_len ar; simp only [ws, List.length_cons]; omega
theorem ws_append : ∀ ar bs : List Ex, ws (ar ++ bs) = ws ar + ws bs
  | [], bs => by simp [ws]
  | a :: ar, bs => by simp only [List.cons_append, ws, ws_append ar bs]; omega
end Ex

theorem list_cases {α : Type} (l : List α) : l = [] ∨ ∃ x t, l = x :: t := by cases l <;> simp

/-- Rounds enough. -/
@[irreducible] def fuelN : Nat := 1099511627776

/-- An element that is there. -/
theorem idx_row {α : Type} {f : α → List D} {l : List α} {i : Nat} {x : α} (h : l[i]? = some x) : List.getD (List.map f l) i [] = f x := by
  simp [List.getD, h]
theorem idx_ok {α : Type} {f : α → List D} {l : List α} {e : Int} {i : Nat} {x : α} {n : Nat} (h : l[i]? = some x) (h0 : 0 ≤ e ∧ e.toNat = i) (hn : ∀ x, (f x).length = n) :
    0 ≤ e ∧ e < (↑(List.length (List.map f l)) : Int) ∧ List.length (List.getD (List.map f l) i []) = n := by
  have := (List.getElem?_eq_some_iff.1 h).1
  refine ⟨h0.1, by rw [List.length_map]; omega, by rw [idx_row h, hn]⟩
theorem idx_ok2 {α : Type} {f : α → List D} {l : List α} {e : Int} {i : Nat} {x : α} (h : l[i]? = some x) (h0 : 0 ≤ e ∧ e.toNat = i) : 0 ≤ e ∧ e < (↑(List.length (List.map f l)) : Int) := by
  have := (List.getElem?_eq_some_iff.1 h).1
  exact ⟨h0.1, by rw [List.length_map]; omega⟩
theorem set_row {α : Type} {f : α → List D} {l : List α} {i : Nat} {x y : α} {n : Nat} {r : List D} (hr : r = f y) (h : (f x).length = n) (c : List D) (hc : c = f y) : List.set (List.map f l) i (List.take 0 (f x) ++ c ++ List.drop n (f x)) = List.map f (List.set l i y) := by
  rw [← h, List.drop_length, hc]; simp
theorem Ty.row_len (t : Ty) : (Ty.row t).length = 2 := by rw [Ty.row_eq]; rfl
theorem Ex.row_len (t : Ex) : (Ex.row t).length = 6 := by rw [Ex.row_eq]; rfl

/-- Numbers, strings, lists of numbers in slices. -/
def I.row (n : Int) : List D := [.int .i64 n]
def S.row (s : List UInt8) : List D := [.str s]
def Il.row (l : List Int) : List D := [.sl 8 (l.map I.row)]
def U.row (n : Int) : List D := [.int .u8 n]
theorem U.row_eq (n : Int) : U.row n = [.int .u8 n] := rfl
theorem U.row_len (n : Int) : (U.row n).length = 1 := rfl
theorem I.row_eq (n : Int) : I.row n = [.int .i64 n] := rfl
theorem S.row_eq (s : List UInt8) : S.row s = [.str s] := rfl
theorem Il.row_eq (l : List Int) : Il.row l = [.sl 8 (l.map I.row)] := rfl
theorem I.row_len (n : Int) : (I.row n).length = 1 := rfl
theorem S.row_len (n : List UInt8) : (S.row n).length = 1 := rfl
theorem Il.row_len (n : List Int) : (Il.row n).length = 1 := rfl

/-- A conflict. -/
structure Cf where
  o : List Int
  t : List Int
def Cf.row (x : Cf) : List D := [.sl 8 (x.o.map I.row), .sl 8 (x.t.map I.row)]
theorem Cf.row_eq (x : Cf) : Cf.row x = [.sl 8 (x.o.map I.row), .sl 8 (x.t.map I.row)] := rfl
theorem Cf.row_len (x : Cf) : (Cf.row x).length = 2 := rfl

/-- A change. -/
structure Ch where
  p : List Int
  e : Ex
def Ch.row (x : Ch) : List D := .sl 8 (x.p.map I.row) :: Ex.row x.e
theorem Ch.row_eq (x : Ch) : Ch.row x = [.sl 8 (x.p.map I.row), .int .i64 x.e.k, .str x.e.nm, .int .i64 x.e.n, .int .i64 x.e.t.k, .sl 32 (x.e.t.ar.map Ty.row), .sl 88 (x.e.ar.map Ex.row)] := by rw [Ch.row, Ex.row_eq]
theorem Ch.row_len (x : Ch) : (Ch.row x).length = 7 := by rw [Ch.row_eq]; rfl

/-- A text that is read. -/
structure Src where
  s : List UInt8
  n : Int
structure Rd where
  s : List UInt8
  at' : Int
  bad : Bool

/-- What is left of a budget. -/
def cut (w : Nat) (b : Int) : Int := if (w : Int) ≤ b then b - w else -1

end Go.Gl
