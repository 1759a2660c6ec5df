/- Contracts: how many holes. -/
import Derived.Test.YtfkeggikdeenbaaS2
set_option linter.unusedVariables false
set_option linter.unusedSimpArgs false
namespace Go.Gl
open Go.Proofs

mutual
def Ex.cnt (b : Int) : Ex → Nat
  | .mk k _ _ _ xs => (if k = b then 1 else 0) + Ex.cnts b xs
def Ex.cnts (b : Int) : List Ex → Nat
  | [] => 0
  | x :: xs => Ex.cnt b x + Ex.cnts b xs
end
theorem Ex.cnts_append (b : Int) : ∀ xs ys : List Ex, Ex.cnts b (xs ++ ys) = Ex.cnts b xs + Ex.cnts b ys
  | [], ys => by simp [Ex.cnts]
  | x :: xs, ys => by simp only [List.cons_append, Ex.cnts, Ex.cnts_append b xs ys]; omega
theorem Ex.cnts_le (b : Int) : ∀ (xs : List Ex), (∀ x ∈ xs, Ex.cnt b x ≤ x.w + 1) → Ex.cnts b xs ≤ Ex.ws xs
  | [], _ => Nat.le_refl _
  | x :: xs, h => by
    have h1 := h x (by simp)
    have h2 := Ex.cnts_le b xs fun y hy => h y (List.mem_cons_of_mem _ hy)
    simp only [Ex.cnts, Ex.ws]; omega
theorem Ex.cnt_le (b : Int) (e : Ex) : Ex.cnt b e ≤ e.w + 1 := by
  induction e using Ex.ind with
  | _ k nm n t xs ih =>
    have := Ex.cnts_le b xs ih
    simp only [Ex.cnt, Ex.w]; split <;> omega
theorem Ex.ws_mem {x : Ex} : ∀ {xs : List Ex}, x ∈ xs → x.w + 1 ≤ Ex.ws xs
  | y :: xs, h => by
    rcases List.mem_cons.1 h with rfl | h
    · simp only [Ex.ws]; omega
    · have := Ex.ws_mem h; simp only [Ex.ws]; omega

theorem c75 (a : Bool) : C Try.prog 75 [.val false [.c (.bool a)]] sg75 (fun n => n = if a then 1 else 0) := by
  refine r75 _ _ ?_
  unfold q75
  exact ⟨fun h => by rw [h]; rfl, fun h => by rw [h]; rfl⟩

theorem c27 : ∀ x : Ex, x.w ≤ 1048576 → C Try.prog 27 [.val true [.c (.int .i64 x.k), .c (.str x.nm), .c (.int .i64 x.n), .c (.int .i64 x.t.k), .c (.sl 32 (x.t.ar.map Ty.row)), .c (.sl 88 (x.ar.map Ex.row))]] sg27 (fun n => n = x.cnt 1) := by
  intro x
  induction x using Ex.ind with
  | _ k nm n t xs ih =>
    intro hw
    simp only [Ex.w] at hw
    refine r27 _ _ _ _ _ _ _ (fun m i a => ∃ pre post, xs = pre ++ post ∧ m = post.length ∧ i = pre.length ∧ a = (if k = 1 then 1 else 0) + (Ex.cnts 1 pre : Int)) ?_ ?_
    · intro _ _ _ _ _ _ J hJ
      refine (c75 _).imp ?_
      rintro r rfl
      refine hJ xs.length _ _ ⟨[], xs, rfl, rfl, rfl, ?_⟩
      by_cases h : k = 1 <;> simp [Ex.cnts, Ex.k, h]
    · rintro m i a ⟨pre, post, rfl, rfl, rfl, rfl⟩ _ _ f1 J hJ
      have f1 := fact_sl f1
      simp only [Ex.ar, List.length_map, List.length_append] at f1
      have hw' := hw
      rw [Ex.ws_append] at hw'
      have hp := Ex.cnts_le 1 pre fun y _ => Ex.cnt_le 1 y
      simp only [q27_3, decide_eq_true_eq, decide_eq_false_iff_not]
      simp only [Ex.ar, List.length_map, List.length_append, Ex.cnt]
      cases post with
      | nil =>
        refine ⟨fun h => absurd h (by simp), fun _ => ?_⟩
        rw [List.append_nil]; split <;> simp
      | cons x post =>
        simp only [List.length_cons, Ex.ws] at f1 hw' ⊢
        refine ⟨fun _ => ⟨⟨by omega, by omega, by rw [Int.toNat_natCast, getD_mid, Ex.row_eq]; rfl⟩, x.k, x.nm, x.n, x.t.k, (x.t.ar.map Ty.row), (x.ar.map Ex.row), by rw [Int.toNat_natCast, getD_mid, Ex.row_eq]; rfl, (ih x (by simp) (by omega)).imp ?_⟩, fun h => absurd h (by omega)⟩
        rintro r rfl
        have hx := Ex.cnt_le 1 x
        rw [wrap_id (by omega) (by omega), wrap_id (by split <;> omega) (by split <;> omega)]
        refine hJ post.length _ _ (by simp) ⟨pre ++ [x], post, by simp, rfl, by simp, ?_⟩
        rw [Ex.cnts_append]; simp only [Ex.cnts]; split <;> omega

theorem c124 (x : Ex) (b c : Int) (h0 : 0 ≤ c) (h1 : c ≤ 4611686018427387904) : C Try.prog 124 [.val true [.c (.int .i64 x.k), .c (.str x.nm), .c (.int .i64 x.n), .c (.int .i64 x.t.k), .c (.sl 32 (x.t.ar.map Ty.row)), .c (.sl 88 (x.ar.map Ex.row))], .box [.c (.int .i64 b)], .box [.c (.int .i64 c)]] sg124 (fun n n1 => n = b ∧ n1 = c + (if x.k = b then 1 else 0)) := by
  refine r124 _ _ _ _ _ _ _ _ _ ?_
  intro _ _ _ _ _ _ _ _
  simp only [q124, beq_iff_eq, beq_eq_false_iff_ne, ne_eq]
  rw [wrap_id (by omega) (by omega)]
  exact ⟨fun h => by simp [h], fun h => by simp [h]⟩

theorem c123 : ∀ (x : Ex) (b c : Int), 0 ≤ c → c + x.w ≤ 1048576 → C Try.prog 123 [.val true [.c (.int .i64 x.k), .c (.str x.nm), .c (.int .i64 x.n), .c (.int .i64 x.t.k), .c (.sl 32 (x.t.ar.map Ty.row)), .c (.sl 88 (x.ar.map Ex.row))], .fn 124 [[.c (.int .i64 b)], [.c (.int .i64 c)]]] sg123 (fun n n1 => n = b ∧ n1 = c + x.cnt b) := by
  intro x
  induction x using Ex.ind with
  | _ k nm n t xs ih =>
    intro b c h0 hw
    simp only [Ex.w] at hw
    refine r123 _ _ _ _ _ _ _ _ _ (fun m i n1 n0 => ∃ pre post, xs = pre ++ post ∧ m = post.length ∧ i = pre.length ∧ n0 = b ∧ n1 = c + (if k = b then 1 else 0) + (Ex.cnts b pre : Int)) ?_ ?_
    · intro _ _ _ _ _ _ _ _ J hJ
      refine (c124 (.mk k nm n t xs) b c (by omega) (by omega)).imp ?_
      rintro r r1 ⟨rfl, rfl⟩
      exact hJ xs.length _ _ _ ⟨[], xs, rfl, rfl, rfl, rfl, by by_cases h : k = r <;> simp [Ex.cnts, Ex.k, h]⟩
    · rintro m i n1 n0 ⟨pre, post, rfl, rfl, rfl, rfl, rfl⟩ f1 J hJ
      have f1 := fact_sl f1
      simp only [Ex.ar, List.length_map, List.length_append] at f1
      have hw' := hw
      rw [Ex.ws_append] at hw'
      have hp := Ex.cnts_le n0 pre fun y _ => Ex.cnt_le n0 y
      simp only [q123_3, decide_eq_true_eq, decide_eq_false_iff_not]
      simp only [Ex.ar, List.length_map, List.length_append, Ex.cnt]
      cases post with
      | nil =>
        refine ⟨fun h => absurd h (by simp), fun _ => ⟨by first | rfl | trivial, ?_⟩⟩
        rw [List.append_nil]; split <;> simp [Int.add_assoc]
      | cons x post =>
        simp only [List.length_cons, Ex.ws] at f1 hw' ⊢
        refine ⟨fun _ => ⟨⟨by omega, by omega, by rw [Int.toNat_natCast, getD_mid, Ex.row_eq]; rfl⟩, x.k, x.nm, x.n, x.t.k, (x.t.ar.map Ty.row), (x.ar.map Ex.row), by rw [Int.toNat_natCast, getD_mid, Ex.row_eq]; rfl, (ih x (by simp) _ _ (by split <;> omega) (by split <;> omega)).imp ?_⟩, fun h => absurd h (by omega)⟩
        rintro r r1 ⟨rfl, rfl⟩
        rw [wrap_id (by omega) (by omega)]
        refine hJ post.length _ _ _ (by simp) ⟨pre ++ [x], post, by simp, rfl, by simp, rfl, ?_⟩
        rw [Ex.cnts_append]; simp only [Ex.cnts]; split <;> omega

theorem c78 (x : Ex) (b : Int) (hw : x.w ≤ 1048576) : C Try.prog 78 [.val true [.c (.int .i64 x.k), .c (.str x.nm), .c (.int .i64 x.n), .c (.int .i64 x.t.k), .c (.sl 32 (x.t.ar.map Ty.row)), .c (.sl 88 (x.ar.map Ex.row))], .val false [.c (.int .i64 b)]] sg78 (fun n => n = x.cnt b) := by
  refine r78 _ _ _ _ _ _ _ _ fun _ _ _ _ _ _ _ => (c123 x b 0 (by omega) (by omega)).imp ?_
  rintro r r1 ⟨rfl, rfl⟩
  show 0 + _ = _
  omega

theorem c29 (x : Ex) (hw : x.w ≤ 1048576) : C Try.prog 29 [.val true [.c (.int .i64 x.k), .c (.str x.nm), .c (.int .i64 x.n), .c (.int .i64 x.t.k), .c (.sl 32 (x.t.ar.map Ty.row)), .c (.sl 88 (x.ar.map Ex.row))]] sg29 (fun n => n = x.cnt 1) := by
  refine r29 _ _ _ _ _ _ _ fun _ _ _ _ _ _ => (c78 x 1 hw).imp ?_
  rintro r rfl
  rfl

theorem law6 (x : Ex) : C Try.prog 6 [.val true [.c (.int .i64 x.k), .c (.str x.nm), .c (.int .i64 x.n), .c (.int .i64 x.t.k), .c (.sl 32 (x.t.ar.map Ty.row)), .c (.sl 88 (x.ar.map Ex.row))]] sg6 (fun b => b = true) := by
  refine r6 _ _ _ _ _ _ _ fun _ _ _ _ _ _ => (c26 x 1048576 (by omega) (by omega)).imp ?_
  rintro r rfl
  refine ⟨fun _ => rfl, fun h => (c28 x).imp ?_⟩
  simp only [decide_eq_false_iff_not] at h
  obtain ⟨hw, _⟩ := cut_ge h
  rintro r0 r1 r2 r3 r4 r5 ⟨rfl, rfl, rfl, rfl, rfl, rfl⟩
  refine (c27 x (by omega)).imp ?_
  rintro r rfl
  refine (c28 x).imp ?_
  rintro r0 r1 r2 r3 r4 r5 ⟨rfl, rfl, rfl, rfl, rfl, rfl⟩
  refine (c29 x (by omega)).imp ?_
  rintro r rfl
  refine ⟨fun h => by simp at h, fun _ => (c28 x).imp ?_⟩
  rintro r0 r1 r2 r3 r4 r5 ⟨rfl, rfl, rfl, rfl, rfl, rfl⟩
  refine (c30 x x).imp ?_
  intro b hb
  rw [hb.2 rfl]
  exact ⟨(fun h => nomatch h), fun _ => rfl⟩

end Go.Gl
