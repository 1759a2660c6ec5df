/- Lists that are filled from the left. -/
import Derived.Test.YtfkeggikdeenbaaT1
namespace Go.Gl

theorem getD_rep {α : Type} (f : α → List D) (pre : List α) (n : Nat) (z : List D) : ((pre.map f) ++ List.replicate (n + 1) z).getD pre.length [] = z := by
  simp [List.getD, List.replicate_succ]
theorem set_rep {α : Type} (f : α → List D) (pre : List α) (n : Nat) (z y : List D) : ((pre.map f) ++ List.replicate (n + 1) z).set pre.length y = (pre.map f) ++ y :: List.replicate n z := by
  rw [List.set_append_right _ _ (by simp)]; simp [List.replicate_succ]
end Go.Gl
