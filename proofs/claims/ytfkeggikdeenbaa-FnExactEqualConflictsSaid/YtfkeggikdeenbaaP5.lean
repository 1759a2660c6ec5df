/- The law FnExactEqualConflicts, as a plain function, always answers true. -/
import Derived.Test.YtfkeggikdeenbaaT4
import Derived.Test.YtfkeggikdeenbaaZ5
set_option linter.unusedSimpArgs false
namespace Go.Gl

theorem E20 : Eq2 F20 := by
  refine lists2 (f := I.row) (G := F20_4) (fun a b => by rw [F20]) (fun b i => by rw [F20_4]) fun b i x post y hi hy => ⟨x == y, by simp, ?_⟩
  rw [F20_4, if_pos hi, hy]
  by_cases h : x = y <;> simp [h]
theorem E120 : Eq2 F120 := by
  refine lists2 (f := I.row) (G := F120_4) (fun a b => by rw [F120]) (fun b i => by rw [F120_4]) fun b i x post y hi hy => ⟨x == y, by simp, ?_⟩
  rw [F120_4, if_pos hi, hy]
  by_cases h : x = y <;> simp [h]
theorem E68 : Eq2 F68 := by
  intro a b
  rw [F68]
  simp only [List.length_map, beq_iff_eq]
  by_cases h : a.length = b.length
  · rw [if_pos (by omega), F119]
    simp only [List.length_map, decide_eq_true_eq]
    rw [if_neg (by omega)]
    obtain ⟨r, hr, e⟩ := walk2 (G := F119_4) (fun b i => by rw [F119_4]) (fun b i x post y hi hy => ⟨x == y, by simp, by
      rw [F119_4, if_pos hi, hy]
      by_cases h : x = y <;> simp [h]⟩) b [] a 0 rfl h.symm
    refine ⟨r, ?_, by rw [e]; exact eq_comm⟩
    rw [List.nil_append] at hr
    rw [hr]
  · rw [if_neg (by omega)]
    exact ⟨false, rfl, by simp; intro h'; exact h (by rw [h'])⟩
theorem Cf.eq_iff (x y : Cf) : x = y ↔ x.o = y.o ∧ x.t = y.t := by
  cases x; cases y; simp
theorem E72 : Eq2 F72 := by
  intro a b
  obtain ⟨r, h1, e1⟩ := E20 a.o b.o
  obtain ⟨s, h2, e2⟩ := E20 a.t b.t
  refine ⟨r && s, ?_, by rw [Cf.eq_iff, ← e1, ← e2]; simp⟩
  rw [F72, h1, h2]
  cases r <;> cases s <;> rfl
theorem E71 : Eq2 F71 := by
  intro a b
  obtain ⟨r, h1, e1⟩ := E120 a.o b.o
  obtain ⟨s, h2, e2⟩ := E120 a.t b.t
  refine ⟨r && s, ?_, by rw [Cf.eq_iff, ← e1, ← e2]; simp⟩
  rw [F71, h1, h2]
  cases r <;> cases s <;> rfl
theorem E22 : Eq2 F22 := by
  refine lists2 (f := Cf.row) (G := F22_4) (fun a b => by rw [F22]) (fun b i => by rw [F22_4]) fun b i x post y hi hy => ?_
  obtain ⟨r, h1, e1⟩ := E68 x.o y.o
  obtain ⟨s, h2, e2⟩ := E68 x.t y.t
  refine ⟨r && s, by rw [Cf.eq_iff, ← e1, ← e2]; simp, ?_⟩
  rw [F22_4, if_pos hi, hy]
  dsimp only
  rw [h1, h2]
  cases r <;> cases s <;> rfl
theorem E25 : Eq2 F25 := by
  refine lists2 (f := Cf.row) (G := F25_4) (fun a b => by rw [F25]) (fun b i => by rw [F25_4]) fun b i x post y hi hy => ?_
  obtain ⟨r, h1, e1⟩ := E72 x y
  refine ⟨r, e1, ?_⟩
  rw [F25_4, if_pos hi, hy]
  dsimp only
  rw [h1]
  cases r <;> rfl
theorem E70 : Eq2 F70 := by
  refine lists2 (f := Cf.row) (G := F70_4) (fun a b => by rw [F70]) (fun b i => by rw [F70_4]) fun b i x post y hi hy => ?_
  obtain ⟨r, h1, e1⟩ := E71 x y
  refine ⟨r, e1, ?_⟩
  rw [F70_4, if_pos hi, hy]
  dsimp only
  rw [h1]
  cases r <;> rfl
theorem E24 : Eq2 F24 := by
  intro a b
  obtain ⟨r, h1, e1⟩ := E70 a b
  exact ⟨r, by rw [F24, h1], e1⟩
theorem law5 (a b : List Cf) : F5 a b = some true := by
  rw [F5]
  split
  · rfl
  split
  · rfl
  obtain ⟨r, h1, h2⟩ := E22.agree E24 (F23 a) (F23 b)
  rw [h1, h2, E25.same, E25.same]
  simp
end Go.Gl
