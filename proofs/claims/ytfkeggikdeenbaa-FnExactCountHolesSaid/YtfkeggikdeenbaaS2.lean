/- Contracts: copies, comparisons of the law's own functions. -/
import Derived.Test.YtfkeggikdeenbaaS1
set_option linter.unusedVariables false
set_option linter.unusedSimpArgs false
namespace Go.Gl
open Go.Proofs

theorem getD_rep {α : Type} (f : α → List D) (pre : List α) (n : Nat) (z : List D) : ((pre.map f) ++ List.replicate (n + 1) z).getD pre.length [] = z := by
  simp [List.getD, List.getElem?_append_right, List.replicate_succ]
theorem set_rep {α : Type} (f : α → List D) (pre : List α) (n : Nat) (z y : List D) : ((pre.map f) ++ List.replicate (n + 1) z).set pre.length y = (pre.map f) ++ y :: List.replicate n z := by
  rw [List.set_append_right _ _ (by simp)]; simp [List.replicate_succ]
theorem c83 (xs ys : List Ty) (ih : ∀ x ∈ xs, ∀ y, C Try.prog 33 [.val true [.c (.int .i64 x.k), .c (.sl 32 (x.ar.map Ty.row))], .val true [.c (.int .i64 y.k), .c (.sl 32 (y.ar.map Ty.row))]] sg33 (fun b => (b = true ↔ x = y))) :
    C Try.prog 83 [.val false [.c (.sl 32 (xs.map Ty.row))], .val false [.c (.sl 32 (ys.map Ty.row))]] sg83 (fun b => (b = true ↔ xs = ys)) := by
  refine r83 _ _ _ (fun m i => ∃ pre post pre' post', xs = pre ++ post ∧ ys = pre' ++ post' ∧ pre.length = pre'.length ∧ post.length = post'.length ∧ m = post.length ∧ i = pre.length ∧ (post = post' ↔ xs = ys)) ?_ ?_
  · intro f1 f2 J hJ
    simp only [q83, List.length_map, bne_iff_ne, ne_eq, bne_eq_false_iff_eq]
    refine ⟨fun h => ?_, fun h => hJ xs.length _ ⟨[], xs, [], ys, rfl, rfl, rfl, by omega, rfl, rfl, Iff.rfl⟩⟩
    exact ⟨(fun h' => nomatch h'), fun h' => absurd (by rw [h']) h⟩
  · rintro m i ⟨pre, post, pre', post', rfl, rfl, hp, hq, rfl, rfl, he⟩ f1 f2 J hJ
    have f1 := fact_sl f1
    simp only [q83_4, List.length_map, List.length_append, decide_eq_true_eq, decide_eq_false_iff_not] at f1 ⊢
    cases post with
    | nil =>
      obtain rfl := List.eq_nil_of_length_eq_zero hq.symm
      exact ⟨fun h => absurd h (by simp), fun _ => ⟨fun _ => he.1 rfl, fun _ => by first | rfl | trivial⟩⟩
    | cons x post =>
      cases post' with
      | nil => simp at hq
      | cons y post' =>
        simp only [List.length_cons] at f1 hq ⊢
        refine ⟨fun _ => ⟨⟨by omega, by omega, by rw [Int.toNat_natCast, getD_mid, Ty.row_eq]; rfl⟩, x.k, (x.ar.map Ty.row), by rw [Int.toNat_natCast, getD_mid, Ty.row_eq]; rfl, ⟨by omega, by omega, by rw [hp]; exact by rw [Int.toNat_natCast, getD_mid, Ty.row_eq]; rfl⟩, y.k, (y.ar.map Ty.row), by rw [hp]; exact by rw [Int.toNat_natCast, getD_mid, Ty.row_eq]; rfl, (ih x (by simp) y).imp ?_⟩, fun h => absurd h (by omega)⟩
        intro b hb
        refine ⟨fun h => ⟨(fun h' => nomatch h'), fun h' => ?_⟩, fun h => ?_⟩
        · have := he.2 h'
          rw [hb.2 (List.cons.inj this).1] at h
          cases h
        · have hb' : b = true := by cases b <;> simp_all
          obtain rfl := hb.1 hb'
          rw [wrap_id (by omega) (by omega)]
          refine hJ post.length _ (by simp) ⟨pre ++ [x], post, pre' ++ [x], post', by simp, by simp, by simp [hp], by omega, rfl, by simp, ?_⟩
          rw [← he]
          simp
theorem c33 : ∀ x y : Ty, C Try.prog 33 [.val true [.c (.int .i64 x.k), .c (.sl 32 (x.ar.map Ty.row))], .val true [.c (.int .i64 y.k), .c (.sl 32 (y.ar.map Ty.row))]] sg33 (fun b => (b = true ↔ x = y)) := by
  intro x
  induction x using Ty.ind with
  | _ k xs ih =>
    rintro ⟨k', ys⟩
    refine r33 _ _ _ _ _ fun f1 f2 f3 f4 => ?_
    simp only [q33, Ty.k, Ty.ar, bne_iff_ne, ne_eq, bne_eq_false_iff_eq]
    refine ⟨fun h => ⟨(fun h => nomatch h), fun h' => absurd (Ty.mk.inj h').1 h⟩, fun h => (c83 xs ys ih).imp ?_⟩
    intro b hb
    subst h
    refine ⟨fun h => ⟨(fun h => nomatch h), fun h' => ?_⟩, fun h => ⟨fun _ => ?_, fun _ => by first | rfl | trivial⟩⟩
    · rw [hb.2 (Ty.mk.inj h').2] at h; cases h
    · rw [hb.1 (by cases b <;> simp_all)]
theorem c122 (xs : List Ty) (ih : ∀ x ∈ xs, C Try.prog 76 [.val true [.c (.int .i64 x.k), .c (.sl 32 (x.ar.map Ty.row))]] sg76 (fun r0 r1 => r0 = x.k ∧ r1 = (x.ar.map Ty.row))) :
    C Try.prog 122 [.val false [.c (.sl 32 (xs.map Ty.row))]] sg122 (fun l => l = xs.map Ty.row) := by
  refine r122 _ _ (fun m i l => ∃ pre post, xs = pre ++ post ∧ m = post.length ∧ i = pre.length ∧ l = pre.map Ty.row ++ List.replicate post.length [.int .i64 0, .sl 32 []]) ?_ ?_
  · intro f1 J hJ
    have f1 := fact_sl f1
    simp only [q122, List.length_map, capB] at f1 ⊢
    exact ⟨⟨by omega, trivial, by omega⟩, hJ xs.length _ _ ⟨[], xs, rfl, rfl, rfl, by rw [Int.toNat_natCast]; rfl⟩⟩
  · rintro m i l ⟨pre, post, rfl, rfl, rfl, rfl⟩ f1 _ J hJ
    have f1 := fact_sl f1
    simp only [q122_3, List.length_map, List.length_append, decide_eq_true_eq, decide_eq_false_iff_not] at f1 ⊢
    cases post with
    | nil => exact ⟨fun h => absurd h (by simp), fun _ => by simp⟩
    | cons x post =>
      simp only [List.length_cons, List.length_replicate] at f1 ⊢
      refine ⟨fun _ => ⟨⟨by omega, by omega, by rw [Int.toNat_natCast, getD_mid, Ty.row_eq]; rfl⟩, x.k, (x.ar.map Ty.row), by rw [Int.toNat_natCast, getD_mid, Ty.row_eq]; rfl, (ih x (by simp)).imp ?_⟩, fun h => absurd h (by omega)⟩
      rintro r0 r1 ⟨rfl, rfl⟩
      refine ⟨⟨by omega, by omega⟩, by rw [Int.toNat_natCast, getD_rep]; simp, ?_⟩
      rw [wrap_id (by omega) (by omega)]
      refine hJ post.length _ _ (by simp) ⟨pre ++ [x], post, by simp, rfl, by simp, ?_⟩
      rw [Int.toNat_natCast, getD_rep, set_rep, List.map_append, List.map_cons, Ty.row_eq]; simp
theorem c76 : ∀ x : Ty, C Try.prog 76 [.val true [.c (.int .i64 x.k), .c (.sl 32 (x.ar.map Ty.row))]] sg76 (fun r0 r1 => r0 = x.k ∧ r1 = x.ar.map Ty.row) := by
  intro x
  induction x using Ty.ind with
  | _ k xs ih =>
    refine r76 _ _ _ fun f1 f2 => (c122 xs ih).imp ?_
    rintro l rfl
    exact ⟨rfl, rfl⟩
theorem c79 (xs ys : List Ex) (ih : ∀ x ∈ xs, ∀ y, C Try.prog 30 [.val true [.c (.int .i64 x.k), .c (.str x.nm), .c (.int .i64 x.n), .c (.int .i64 x.t.k), .c (.sl 32 (x.t.ar.map Ty.row)), .c (.sl 88 (x.ar.map Ex.row))], .val true [.c (.int .i64 y.k), .c (.str y.nm), .c (.int .i64 y.n), .c (.int .i64 y.t.k), .c (.sl 32 (y.t.ar.map Ty.row)), .c (.sl 88 (y.ar.map Ex.row))]] sg30 (fun b => (b = true ↔ x = y))) :
    C Try.prog 79 [.val false [.c (.sl 88 (xs.map Ex.row))], .val false [.c (.sl 88 (ys.map Ex.row))]] sg79 (fun b => (b = true ↔ xs = ys)) := by
  refine r79 _ _ _ (fun m i => ∃ pre post pre' post', xs = pre ++ post ∧ ys = pre' ++ post' ∧ pre.length = pre'.length ∧ post.length = post'.length ∧ m = post.length ∧ i = pre.length ∧ (post = post' ↔ xs = ys)) ?_ ?_
  · intro f1 f2 J hJ
    simp only [q79, List.length_map, bne_iff_ne, ne_eq, bne_eq_false_iff_eq]
    refine ⟨fun h => ?_, fun h => hJ xs.length _ ⟨[], xs, [], ys, rfl, rfl, rfl, by omega, rfl, rfl, Iff.rfl⟩⟩
    exact ⟨(fun h' => nomatch h'), fun h' => absurd (by rw [h']) h⟩
  · rintro m i ⟨pre, post, pre', post', rfl, rfl, hp, hq, rfl, rfl, he⟩ f1 f2 J hJ
    have f1 := fact_sl f1
    simp only [q79_4, List.length_map, List.length_append, decide_eq_true_eq, decide_eq_false_iff_not] at f1 ⊢
    cases post with
    | nil =>
      obtain rfl := List.eq_nil_of_length_eq_zero hq.symm
      exact ⟨fun h => absurd h (by simp), fun _ => ⟨fun _ => he.1 rfl, fun _ => by first | rfl | trivial⟩⟩
    | cons x post =>
      cases post' with
      | nil => simp at hq
      | cons y post' =>
        simp only [List.length_cons] at f1 hq ⊢
        refine ⟨fun _ => ⟨⟨by omega, by omega, by rw [Int.toNat_natCast, getD_mid, Ex.row_eq]; rfl⟩, x.k, x.nm, x.n, x.t.k, (x.t.ar.map Ty.row), (x.ar.map Ex.row), by rw [Int.toNat_natCast, getD_mid, Ex.row_eq]; rfl, ⟨by omega, by omega, by rw [hp]; exact by rw [Int.toNat_natCast, getD_mid, Ex.row_eq]; rfl⟩, y.k, y.nm, y.n, y.t.k, (y.t.ar.map Ty.row), (y.ar.map Ex.row), by rw [hp]; exact by rw [Int.toNat_natCast, getD_mid, Ex.row_eq]; rfl, (ih x (by simp) y).imp ?_⟩, fun h => absurd h (by omega)⟩
        intro b hb
        refine ⟨fun h => ⟨(fun h' => nomatch h'), fun h' => ?_⟩, fun h => ?_⟩
        · have := he.2 h'
          rw [hb.2 (List.cons.inj this).1] at h
          cases h
        · have hb' : b = true := by cases b <;> simp_all
          obtain rfl := hb.1 hb'
          rw [wrap_id (by omega) (by omega)]
          refine hJ post.length _ (by simp) ⟨pre ++ [x], post, pre' ++ [x], post', by simp, by simp, by simp [hp], by omega, rfl, by simp, ?_⟩
          rw [← he]
          simp
theorem c30 : ∀ x y : Ex, C Try.prog 30 [.val true [.c (.int .i64 x.k), .c (.str x.nm), .c (.int .i64 x.n), .c (.int .i64 x.t.k), .c (.sl 32 (x.t.ar.map Ty.row)), .c (.sl 88 (x.ar.map Ex.row))], .val true [.c (.int .i64 y.k), .c (.str y.nm), .c (.int .i64 y.n), .c (.int .i64 y.t.k), .c (.sl 32 (y.t.ar.map Ty.row)), .c (.sl 88 (y.ar.map Ex.row))]] sg30 (fun b => (b = true ↔ x = y)) := by
  intro x
  induction x using Ex.ind with
  | _ k nm n t xs ih =>
    rintro ⟨k', nm', n', t', ys⟩
    refine r30 _ _ _ _ _ _ _ _ _ _ _ _ _ fun _ _ _ _ _ _ _ _ _ _ _ _ => ?_
    simp only [q30, Ex.k, Ex.nm, Ex.n, Ex.t, Ex.ar, bne_iff_ne, ne_eq, bne_eq_false_iff_eq]
    refine ⟨fun h => ⟨(fun h => nomatch h), fun h' => absurd (Ex.mk.inj h').1 h⟩, fun h => ?_⟩
    refine ⟨fun h1 => ⟨(fun h => nomatch h), fun h' => absurd (Ex.mk.inj h').2.1 h1⟩, fun h1 => ?_⟩
    refine ⟨fun h2 => ⟨(fun h => nomatch h), fun h' => absurd (Ex.mk.inj h').2.2.1 h2⟩, fun h2 => ?_⟩
    subst h h1 h2
    refine (c33 t t').imp ?_
    intro b hb
    refine ⟨fun h => ⟨(fun h => nomatch h), fun h' => ?_⟩, fun h => (c79 xs ys ih).imp ?_⟩
    · rw [hb.2 (Ex.mk.inj h').2.2.2.1] at h; cases h
    intro b' hb'
    obtain rfl := hb.1 (by cases b <;> simp_all)
    refine ⟨fun h => ⟨(fun h => nomatch h), fun h' => ?_⟩, fun h => ⟨fun _ => ?_, fun _ => by first | rfl | trivial⟩⟩
    · rw [hb'.2 (Ex.mk.inj h').2.2.2.2] at h; cases h
    · rw [hb'.1 (by cases b' <;> simp_all)]
theorem c77 (xs : List Ex) (ih : ∀ x ∈ xs, C Try.prog 28 [.val true [.c (.int .i64 x.k), .c (.str x.nm), .c (.int .i64 x.n), .c (.int .i64 x.t.k), .c (.sl 32 (x.t.ar.map Ty.row)), .c (.sl 88 (x.ar.map Ex.row))]] sg28 (fun r0 r1 r2 r3 r4 r5 => r0 = x.k ∧ r1 = x.nm ∧ r2 = x.n ∧ r3 = x.t.k ∧ r4 = (x.t.ar.map Ty.row) ∧ r5 = (x.ar.map Ex.row))) :
    C Try.prog 77 [.val false [.c (.sl 88 (xs.map Ex.row))]] sg77 (fun l => l = xs.map Ex.row) := by
  refine r77 _ _ (fun m i l => ∃ pre post, xs = pre ++ post ∧ m = post.length ∧ i = pre.length ∧ l = pre.map Ex.row ++ List.replicate post.length [.int .i64 0, .str [], .int .i64 0, .int .i64 0, .sl 32 [], .sl 88 []]) ?_ ?_
  · intro f1 J hJ
    have f1 := fact_sl f1
    simp only [q77, List.length_map, capB] at f1 ⊢
    exact ⟨⟨by omega, trivial, by omega⟩, hJ xs.length _ _ ⟨[], xs, rfl, rfl, rfl, by rw [Int.toNat_natCast]; rfl⟩⟩
  · rintro m i l ⟨pre, post, rfl, rfl, rfl, rfl⟩ f1 _ J hJ
    have f1 := fact_sl f1
    simp only [q77_3, List.length_map, List.length_append, decide_eq_true_eq, decide_eq_false_iff_not] at f1 ⊢
    cases post with
    | nil => exact ⟨fun h => absurd h (by simp), fun _ => by simp⟩
    | cons x post =>
      simp only [List.length_cons, List.length_replicate] at f1 ⊢
      refine ⟨fun _ => ⟨⟨by omega, by omega, by rw [Int.toNat_natCast, getD_mid, Ex.row_eq]; rfl⟩, x.k, x.nm, x.n, x.t.k, (x.t.ar.map Ty.row), (x.ar.map Ex.row), by rw [Int.toNat_natCast, getD_mid, Ex.row_eq]; rfl, (ih x (by simp)).imp ?_⟩, fun h => absurd h (by omega)⟩
      rintro r0 r1 r2 r3 r4 r5 ⟨rfl, rfl, rfl, rfl, rfl, rfl⟩
      refine ⟨⟨by omega, by omega⟩, by rw [Int.toNat_natCast, getD_rep]; simp, ?_⟩
      rw [wrap_id (by omega) (by omega)]
      refine hJ post.length _ _ (by simp) ⟨pre ++ [x], post, by simp, rfl, by simp, ?_⟩
      rw [Int.toNat_natCast, getD_rep, set_rep, List.map_append, List.map_cons, Ex.row_eq]; simp
theorem c28 : ∀ x : Ex, C Try.prog 28 [.val true [.c (.int .i64 x.k), .c (.str x.nm), .c (.int .i64 x.n), .c (.int .i64 x.t.k), .c (.sl 32 (x.t.ar.map Ty.row)), .c (.sl 88 (x.ar.map Ex.row))]] sg28 (fun r0 r1 r2 r3 r4 r5 => r0 = x.k ∧ r1 = x.nm ∧ r2 = x.n ∧ r3 = x.t.k ∧ r4 = x.t.ar.map Ty.row ∧ r5 = x.ar.map Ex.row) := by
  intro x
  induction x using Ex.ind with
  | _ k nm n t xs ih =>
    refine r28 _ _ _ _ _ _ _ fun _ _ _ _ _ _ => (c76 t).imp ?_
    rintro r0 r1 ⟨rfl, rfl⟩
    refine (c77 xs ih).imp ?_
    rintro l rfl
    exact ⟨rfl, rfl, rfl, rfl, rfl, rfl⟩

end Go.Gl
