/- Data of the program's types, and how it lies in rows. -/
import Derived.Test.YtfkeggikdeenbaaL39
set_option linter.unusedVariables false
namespace Go.Gl

theorem wrap_id {n : Int} (h1 : -9223372036854775808 ≤ n) (h2 : n < 9223372036854775808) : IntKind.wrap IntKind.i64 n = n := by
  rw [IntKind.wrap_i64]; omega

theorem fact_sl {B : Nat} {xs : List (List D)} (h : DFact (.sl B xs)) : xs.length ≤ 9223372036854775807 ∧ xs.length * B ≤ 140737488355328 := h
theorem fact_str {s : List UInt8} (h : DFact (.str s)) : s.length ≤ 9223372036854775807 := h
theorem fact_int {n : Int} (h : DFact (.int .i64 n)) : -9223372036854775808 ≤ n ∧ n ≤ 9223372036854775807 := by
  have h : (Lit.int .i64 n).wf = true := h
  simp only [Lit.wf, Bool.and_eq_true, decide_eq_true_eq] at h
  simp [IntKind.min, IntKind.max, IntKind.signed, IntKind.bits] at h
  omega

theorem getD_mid {α : Type} (f : α → List D) (pre : List α) (x : α) (post : List α) : ((pre ++ x :: post).map f).getD pre.length [] = f x := by
  simp [List.getD]

/-- A law says no less than another one. -/
def Imp : (ks : List CK) → Pay ks → Pay ks → Prop
  | [], p, q => p → q
  | .int _ :: r, p, q => ∀ n, Imp r (p n) (q n)
  | .bool :: r, p, q => ∀ n, Imp r (p n) (q n)
  | .str :: r, p, q => ∀ n, Imp r (p n) (q n)
  | .sl _ _ _ :: r, p, q => ∀ n, Imp r (p n) (q n)

theorem Imp.app {ks : List CK} : ∀ {p q : Pay ks} (h : Imp ks p q) (ds : List D), Pay.app ks p ds → Pay.app ks q ds := by
  induction ks with
  | nil =>
    intro p q h ds hp
    cases ds with
    | nil => exact h hp
    | cons d ds => exact hp.elim
  | cons k ks ih =>
    intro p q h ds hp
    cases k with
    | int k =>
      cases ds with
      | nil => exact hp.elim
      | cons d ds =>
        cases d with
        | int k' n =>
          have hp : (match Nat.beq k.ctorIdx k'.ctorIdx with | true => Pay.app ks (p n) ds | false => False) := hp
          show (match Nat.beq k.ctorIdx k'.ctorIdx with | true => Pay.app ks (q n) ds | false => False)
          cases hk : Nat.beq k.ctorIdx k'.ctorIdx with
          | false => rw [hk] at hp; exact hp.elim
          | true => rw [hk] at hp; exact ih (h n) ds hp
        | _ => exact hp.elim
    | bool =>
      cases ds with
      | nil => exact hp.elim
      | cons d ds =>
        cases d with
        | bool n => exact ih (p := p n) (q := q n) (h n) ds hp
        | _ => exact hp.elim
    | str =>
      cases ds with
      | nil => exact hp.elim
      | cons d ds =>
        cases d with
        | str n => exact ih (p := p n) (q := q n) (h n) ds hp
        | _ => exact hp.elim
    | sl T e B =>
      cases ds with
      | nil => exact hp.elim
      | cons d ds =>
        cases d with
        | sl B' n =>
          have hp : (match Nat.beq B B' with | true => Pay.app ks (p n) ds | false => False) := hp
          show (match Nat.beq B B' with | true => Pay.app ks (q n) ds | false => False)
          cases hk : Nat.beq B B' with
          | false => rw [hk] at hp; exact hp.elim
          | true => rw [hk] at hp; exact ih (h n) ds hp
        | _ => exact hp.elim

/-- A contract says more than is asked. -/
theorem C.imp {P : Program} {f : FuncId} {args : List Arg} {sg : Sig} {R R' : Pay sg.kinds} (h : C P f args sg R) (hr : Imp sg.kinds R R') : C P f args sg R' := h.mono hr.app

inductive Ty where
  | mk (k : Int) (ar : List Ty)

namespace Ty
def k : Ty → Int | mk k _ => k
def ar : Ty → List Ty | mk _ ar => ar
mutual
def row : Ty → List D
  | mk k ar => [.int .i64 k, .sl 32 (rows ar)]
def rows : List Ty → List (List D)
  | [] => []
  | a :: ar => row a :: rows ar
end
theorem rows_map : ∀ ar : List Ty, rows ar = ar.map row
  | [] => rfl
  | a :: ar => by simp [rows, rows_map ar]
theorem row_eq (t : Ty) : row t = [.int .i64 t.k, .sl 32 (t.ar.map row)] := by
  cases t; simp [row, rows_map, k, ar]
theorem ind {P : Ty → Prop} (h : ∀ k ar, (∀ a ∈ ar, P a) → P (mk k ar)) (t : Ty) : P t := by
  refine Ty.rec (motive_1 := P) (motive_2 := fun ar => ∀ a ∈ ar, P a) (fun k ar ih => h k ar ih) (fun _ h => nomatch h) (fun a ar h1 h2 x hx => ?_) t
  rcases List.mem_cons.1 hx with rfl | hx
  · exact h1
  · exact h2 x hx
mutual
def w : Ty → Nat
  | mk k ar => ws ar
def ws : List Ty → Nat
  | [] => 0
  | a :: ar => 1 + w a + ws ar
end
theorem ws_len : ∀ ar : List Ty, ar.length ≤ ws ar
  | [] => Nat.le_refl _
  | a :: ar => by have := ws_len ar; simp only [ws, List.length_cons]; omega
theorem ws_append : ∀ ar bs : List Ty, ws (ar ++ bs) = ws ar + ws bs
  | [], bs => by simp [ws]
  | a :: ar, bs => by simp only [List.cons_append, ws, ws_append ar bs]; omega
end Ty

inductive Ex where
  | mk (k : Int) (nm : List UInt8) (n : Int) (t : Ty) (ar : List Ex)

namespace Ex
def k : Ex → Int | mk k _ _ _ _ => k
def nm : Ex → List UInt8 | mk _ nm _ _ _ => nm
def n : Ex → Int | mk _ _ n _ _ => n
def t : Ex → Ty | mk _ _ _ t _ => t
def ar : Ex → List Ex | mk _ _ _ _ ar => ar
mutual
def row : Ex → List D
  | mk k nm n t ar => [.int .i64 k, .str nm, .int .i64 n, .int .i64 t.k, .sl 32 (t.ar.map Ty.row), .sl 88 (rows ar)]
def rows : List Ex → List (List D)
  | [] => []
  | a :: ar => row a :: rows ar
end
theorem rows_map : ∀ ar : List Ex, rows ar = ar.map row
  | [] => rfl
  | a :: ar => by simp [rows, rows_map ar]
theorem row_eq (e : Ex) : row e = [.int .i64 e.k, .str e.nm, .int .i64 e.n, .int .i64 e.t.k, .sl 32 (e.t.ar.map Ty.row), .sl 88 (e.ar.map row)] := by
  cases e; simp [row, rows_map, k, ar, nm, n, t]
theorem ind {P : Ex → Prop} (h : ∀ k nm n t ar, (∀ a ∈ ar, P a) → P (mk k nm n t ar)) (t : Ex) : P t := by
  refine Ex.rec (motive_1 := P) (motive_2 := fun ar => ∀ a ∈ ar, P a) (fun k nm n t ar ih => h k nm n t ar ih) (fun _ h => nomatch h) (fun a ar h1 h2 x hx => ?_) t
  rcases List.mem_cons.1 hx with rfl | hx
  · exact h1
  · exact h2 x hx
mutual
def w : Ex → Nat
  | mk k nm n t ar => nm.length + t.w + ws ar
def ws : List Ex → Nat
  | [] => 0
  | a :: ar => 1 + w a + ws ar
end
theorem ws_len : ∀ ar : List Ex, ar.length ≤ ws ar
  | [] => Nat.le_refl _
  | a :: ar => by have := ws_len ar; simp only [ws, List.length_cons]; omega
theorem ws_append : ∀ ar bs : List Ex, ws (ar ++ bs) = ws ar + ws bs
  | [], bs => by simp [ws]
  | a :: ar, bs => by simp only [List.cons_append, ws, ws_append ar bs]; omega
end Ex

/-- What is left of a budget. -/
def cut (w : Nat) (b : Int) : Int := if (w : Int) ≤ b then b - w else -1

end Go.Gl
