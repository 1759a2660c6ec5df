/- Contracts: sizes. -/
import Derived.Test.YtfkeggikdeenbaaT1
import Derived.Test.YtfkeggikdeenbaaZ1
set_option linter.unusedVariables false
set_option linter.unusedSimpArgs false
namespace Go.Gl
open Go.Proofs

theorem cut_lt {w : Nat} {b : Int} (h : cut w b < 0) (hb : 0 ≤ b) : b < w := by
  unfold cut at h; split at h <;> omega
theorem cut_ge {w : Nat} {b : Int} (h : ¬ cut w b < 0) : (w : Int) ≤ b ∧ cut w b = b - w := by
  unfold cut at h ⊢; split at h
  · rename_i hh; rw [if_pos hh]; exact ⟨hh, rfl⟩
  · omega
theorem cut_neg {w : Nat} {b : Int} (h : b < w) : cut w b = -1 := by unfold cut; rw [if_neg (by omega)]
theorem cut_pos {w : Nat} {b : Int} (h : (w : Int) ≤ b) : cut w b = b - w := by unfold cut; rw [if_pos h]
theorem c121 (xs : List Ty) (ih : ∀ a ∈ xs, ∀ b : Int, 0 ≤ b → b ≤ 1048576 → C Try.prog 73 [.val true [.c (.int .i64 a.k), .c (.sl 32 (a.ar.map Ty.row))], .val false [.c (.int .i64 b)]] sg73 (fun n => n = cut a.w b)) (b : Int) (h0 : 0 ≤ b) (hb : b ≤ 1048576) :
    C Try.prog 121 [.val false [.c (.sl 32 (xs.map Ty.row))], .val false [.c (.int .i64 b)]] sg121 (fun n => n = cut (Ty.ws xs) b) := by
  refine r121 _ _ _ (fun m i n1 => ∃ pre post, xs = pre ++ post ∧ m = post.length ∧ i = pre.length ∧ 0 ≤ n1 ∧ n1 ≤ 1048576 ∧ cut (Ty.ws post - post.length) n1 = cut (Ty.ws xs) b) ?_ ?_
  · intro f1 f2 J hJ
    have f1 := fact_sl f1
    have hl := Ty.ws_len xs
    simp only [List.length_map] at f1
    simp only [q121, List.length_map, decide_eq_true_eq, decide_eq_false_iff_not]
    rw [wrap_id (by omega) (by omega)]
    refine ⟨fun h => ?_, fun h => hJ xs.length _ _ ⟨[], xs, rfl, rfl, rfl, by omega, by omega, ?_⟩⟩
    · unfold cut; rw [if_neg (by omega)]
    · unfold cut
      split <;> split <;> omega
  · rintro x i n1 ⟨pre, post, rfl, rfl, rfl, h1, h2, h3⟩ f1 J hJ
    have f1 := fact_sl f1
    simp only [q121_5, List.length_map, List.length_append, decide_eq_true_eq, decide_eq_false_iff_not] at f1 ⊢
    cases post with
    | nil =>
      simp only [List.length_nil, Nat.add_zero, Ty.ws, Nat.zero_sub] at h3 ⊢
      refine ⟨fun h => absurd h (by omega), fun _ => ?_⟩
      rw [← h3]; unfold cut; rw [if_pos (by omega)]; omega
    | cons a post =>
      simp only [List.length_cons] at f1 ⊢
      refine ⟨fun _ => ⟨⟨by omega, by omega, by rw [Int.toNat_natCast, getD_mid, Ty.row_eq]; rfl⟩, a.k, (a.ar.map Ty.row), by rw [Int.toNat_natCast, getD_mid, Ty.row_eq]; rfl, (ih a (by simp) n1 h1 h2).imp ?_⟩, fun h => absurd h (by omega)⟩
      rintro n rfl
      have hl := Ty.ws_len post
      have e : Ty.ws (a :: post) - (a :: post).length = a.w + (Ty.ws post - post.length) := by simp only [Ty.ws, List.length_cons]; omega
      rw [e] at h3
      refine ⟨fun h => ?_, fun h => ?_⟩
      · rw [← h3]
        unfold cut at h ⊢
        split at h
        · omega
        · rw [if_neg (by omega)]
      · rw [wrap_id (by omega) (by omega)]
        have hc : cut a.w n1 = n1 - a.w ∧ (a.w : Int) ≤ n1 := by
          unfold cut at h ⊢
          split at h
          · rename_i hh; rw [if_pos hh]; exact ⟨rfl, hh⟩
          · omega
        refine hJ post.length _ _ (by simp) ⟨pre ++ [a], post, by simp, rfl, by simp, by omega, by omega, ?_⟩
        rw [← h3, hc.1]
        unfold cut
        split <;> split <;> omega
theorem c73 : ∀ (x : Ty) (b : Int), 0 ≤ b → b ≤ 1048576 → C Try.prog 73 [.val true [.c (.int .i64 x.k), .c (.sl 32 (x.ar.map Ty.row))], .val false [.c (.int .i64 b)]] sg73 (fun n => n = cut x.w b) := by
  intro x
  induction x using Ty.ind with
  | _ k xs ih =>
    intro b h0 hb
    refine r73 _ _ _ _ fun f1 f2 f3 => (c121 xs ih b h0 hb).imp ?_
    rintro n rfl
    simp only [decide_eq_true_eq, decide_eq_false_iff_not, Ty.w]
    exact ⟨fun h => (cut_neg (cut_lt h h0)).symm, fun _ => trivial⟩
theorem c74 (xs : List Ex) (ih : ∀ a ∈ xs, ∀ b : Int, 0 ≤ b → b ≤ 1048576 → C Try.prog 26 [.val true [.c (.int .i64 a.k), .c (.str a.nm), .c (.int .i64 a.n), .c (.int .i64 a.t.k), .c (.sl 32 (a.t.ar.map Ty.row)), .c (.sl 88 (a.ar.map Ex.row))], .val false [.c (.int .i64 b)]] sg26 (fun n => n = cut a.w b)) (b : Int) (h0 : 0 ≤ b) (hb : b ≤ 1048576) :
    C Try.prog 74 [.val false [.c (.sl 88 (xs.map Ex.row))], .val false [.c (.int .i64 b)]] sg74 (fun n => n = cut (Ex.ws xs) b) := by
  refine r74 _ _ _ (fun m i n1 => ∃ pre post, xs = pre ++ post ∧ m = post.length ∧ i = pre.length ∧ 0 ≤ n1 ∧ n1 ≤ 1048576 ∧ cut (Ex.ws post - post.length) n1 = cut (Ex.ws xs) b) ?_ ?_
  · intro f1 f2 J hJ
    have f1 := fact_sl f1
    have hl := Ex.ws_len xs
    simp only [List.length_map] at f1
    simp only [q74, List.length_map, decide_eq_true_eq, decide_eq_false_iff_not]
    rw [wrap_id (by omega) (by omega)]
    refine ⟨fun h => ?_, fun h => hJ xs.length _ _ ⟨[], xs, rfl, rfl, rfl, by omega, by omega, ?_⟩⟩
    · unfold cut; rw [if_neg (by omega)]
    · unfold cut
      split <;> split <;> omega
  · rintro x i n1 ⟨pre, post, rfl, rfl, rfl, h1, h2, h3⟩ f1 J hJ
    have f1 := fact_sl f1
    simp only [q74_5, List.length_map, List.length_append, decide_eq_true_eq, decide_eq_false_iff_not] at f1 ⊢
    cases post with
    | nil =>
      simp only [List.length_nil, Nat.add_zero, Ex.ws, Nat.zero_sub] at h3 ⊢
      refine ⟨fun h => absurd h (by omega), fun _ => ?_⟩
      rw [← h3]; unfold cut; rw [if_pos (by omega)]; omega
    | cons a post =>
      simp only [List.length_cons] at f1 ⊢
      refine ⟨fun _ => ⟨⟨by omega, by omega, by rw [Int.toNat_natCast, getD_mid, Ex.row_eq]; rfl⟩, a.k, a.nm, a.n, a.t.k, (a.t.ar.map Ty.row), (a.ar.map Ex.row), by rw [Int.toNat_natCast, getD_mid, Ex.row_eq]; rfl, (ih a (by simp) n1 h1 h2).imp ?_⟩, fun h => absurd h (by omega)⟩
      rintro n rfl
      have hl := Ex.ws_len post
      have e : Ex.ws (a :: post) - (a :: post).length = a.w + (Ex.ws post - post.length) := by simp only [Ex.ws, List.length_cons]; omega
      rw [e] at h3
      refine ⟨fun h => ?_, fun h => ?_⟩
      · rw [← h3]
        unfold cut at h ⊢
        split at h
        · omega
        · rw [if_neg (by omega)]
      · rw [wrap_id (by omega) (by omega)]
        have hc : cut a.w n1 = n1 - a.w ∧ (a.w : Int) ≤ n1 := by
          unfold cut at h ⊢
          split at h
          · rename_i hh; rw [if_pos hh]; exact ⟨rfl, hh⟩
          · omega
        refine hJ post.length _ _ (by simp) ⟨pre ++ [a], post, by simp, rfl, by simp, by omega, by omega, ?_⟩
        rw [← h3, hc.1]
        unfold cut
        split <;> split <;> omega
theorem c26 : ∀ (x : Ex) (b : Int), 0 ≤ b → b ≤ 1048576 → C Try.prog 26 [.val true [.c (.int .i64 x.k), .c (.str x.nm), .c (.int .i64 x.n), .c (.int .i64 x.t.k), .c (.sl 32 (x.t.ar.map Ty.row)), .c (.sl 88 (x.ar.map Ex.row))], .val false [.c (.int .i64 b)]] sg26 (fun n => n = cut x.w b) := by
  intro x
  induction x using Ex.ind with
  | _ k nm n t xs ih =>
    intro b h0 hb
    refine r26 _ _ _ _ _ _ _ _ fun f1 f2 f3 f4 f5 f6 f7 => ?_
    have f2 := fact_str f2
    simp only [Ex.nm] at f2
    simp only [q26, decide_eq_true_eq, decide_eq_false_iff_not]
    simp only [Ex.nm, Ex.t, Ex.ar, Ex.w]
    rw [wrap_id (by omega) (by omega)]
    refine ⟨fun h => (cut_neg (by omega)).symm, fun h => (c73 t _ (by omega) (by omega)).imp ?_⟩
    rintro r rfl
    try simp only [decide_eq_true_eq, decide_eq_false_iff_not]
    refine ⟨fun h1 => (cut_neg (by have := cut_lt h1 (by omega); omega)).symm, fun h1 => ?_⟩
    obtain ⟨g1, g2⟩ := cut_ge h1
    refine (c74 xs ih _ (by omega) (by omega)).imp ?_
    rintro r rfl
    try simp only [decide_eq_true_eq, decide_eq_false_iff_not]
    rw [g2]
    refine ⟨fun h2 => (cut_neg (by have := cut_lt h2 (by omega); omega)).symm, fun h2 => ?_⟩
    obtain ⟨g3, g4⟩ := cut_ge h2
    rw [g4, cut_pos (by omega)]; omega

end Go.Gl
