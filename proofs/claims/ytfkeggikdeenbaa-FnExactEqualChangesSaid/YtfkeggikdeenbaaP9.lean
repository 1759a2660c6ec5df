/- The law FnExactEqualChanges, as a plain function, always answers true. -/
import Derived.Test.YtfkeggikdeenbaaT6
import Derived.Test.YtfkeggikdeenbaaZ9
set_option linter.unusedSimpArgs false
namespace Go.Gl

theorem E20 : Eq2 F20 := by
  refine lists2 (f := I.row) (G := F20_4) (fun a b => by rw [F20]) (fun b i => by rw [F20_4]) fun b i x post y hi hy => ⟨x == y, by simp, ?_⟩
  rw [F20_4, if_pos hi, hy]
  by_cases h : x = y <;> simp [h]
theorem E120 : Eq2 F120 := by
  refine lists2 (f := I.row) (G := F120_4) (fun a b => by rw [F120]) (fun b i => by rw [F120_4]) fun b i x post y hi hy => ⟨x == y, by simp, ?_⟩
  rw [F120_4, if_pos hi, hy]
  by_cases h : x = y <;> simp [h]
theorem E68 : Eq2 F68 := by
  intro a b
  rw [F68]
  simp only [List.length_map, beq_iff_eq]
  by_cases h : a.length = b.length
  · rw [if_pos (by omega), F119]
    simp only [List.length_map, decide_eq_true_eq]
    rw [if_neg (by omega)]
    obtain ⟨r, hr, e⟩ := walk2 (G := F119_4) (fun b i => by rw [F119_4]) (fun b i x post y hi hy => ⟨x == y, by simp, by
      rw [F119_4, if_pos hi, hy]
      by_cases h : x = y <;> simp [h]⟩) b [] a 0 rfl h.symm
    refine ⟨r, ?_, by rw [e]; exact eq_comm⟩
    rw [List.nil_append] at hr
    rw [hr]
  · rw [if_neg (by omega)]
    exact ⟨false, rfl, by simp; intro h'; exact h (by rw [h'])⟩
theorem Ty.eq_iff' (k : Int) (l : List Ty) (y : Ty) : Ty.mk k l = y ↔ k = y.k ∧ l = y.ar := by cases y; exact Ty.eq_iff _ _ _ _
theorem Ex.eq_iff' (a : Int) (b : List UInt8) (c : Int) (d : Ty) (e : List Ex) (y : Ex) : Ex.mk a b c d e = y ↔ a = y.k ∧ b = y.nm ∧ c = y.n ∧ d = y.t ∧ e = y.ar := by cases y; exact Ex.eq_iff _ _ _ _ _ _ _ _ _ _
theorem E33 : Eq2 F33 := by
  intro x
  induction x using Ty.ind with
  | _ k xs ih =>
    intro y0
    obtain ⟨r, hr, e⟩ := lists3 Ty.row F83_4 (fun b i => by rw [F83_4]) (fun b i x post y hq hi hy => by
      obtain ⟨r, h1, e1⟩ := hq y
      refine ⟨r, e1, ?_⟩
      rw [F83_4, if_pos hi, hy]
      dsimp only
      rw [h1]
      cases r <;> rfl) xs y0.ar ih
    rw [F33, hr]
    refine ⟨(k == y0.k) && r, ?_, by rw [Ty.eq_iff', ← e]; simp⟩
    by_cases h : k = y0.k <;> cases r <;> simp [h]
theorem E138 : Eq2 F138 := by
  intro x
  induction x using Ty.ind with
  | _ k xs ih =>
    intro y0
    obtain ⟨r, hr, e⟩ := lists3 Ty.row (fun l => F138_4 (Ty.mk y0.k l)) (fun b i => by rw [F138_4]) (fun b i x post y hq hi hy => by
      obtain ⟨r, h1, e1⟩ := hq y
      refine ⟨r, e1, ?_⟩
      rw [F138_4, if_pos hi]
      simp only [Ty.ar]
      rw [hy]
      dsimp only
      rw [h1]
      cases r <;> rfl) xs y0.ar ih
    have hr : (if ((↑(List.length (List.map Ty.row xs)) : Int) != (↑(List.length (List.map Ty.row y0.ar)) : Int)) = true then some false else F138_4 y0 0 xs) = some r := by cases y0; exact hr
    rw [F138, hr]
    refine ⟨(k == y0.k) && r, ?_, by rw [Ty.eq_iff', ← e]; simp⟩
    by_cases h : k = y0.k <;> cases r <;> simp [h]
theorem E51 : Eq2 F51 := by
  intro x
  induction x using Ty.ind with
  | _ k xs ih =>
    intro y0
    obtain ⟨r, hr, e⟩ := lists3 Ty.row F104_4 (fun b i => by rw [F104_4]) (fun b i x post y hq hi hy => by
      obtain ⟨r, h1, e1⟩ := hq y
      refine ⟨r, e1, ?_⟩
      rw [F104_4, if_pos hi, hy]
      dsimp only
      rw [h1]
      cases r <;> rfl) xs y0.ar ih
    rw [F51, hr]
    refine ⟨(k == y0.k) && r, ?_, by rw [Ty.eq_iff', ← e]; simp⟩
    by_cases h : k = y0.k <;> cases r <;> simp [h]
theorem E30 : Eq2 F30 := by
  intro x
  induction x using Ex.ind with
  | _ k nm n t xs ih =>
    intro y0
    obtain ⟨s, h2, e2⟩ := E33 t y0.t
    obtain ⟨r, hr, e⟩ := lists3 Ex.row F79_4 (fun b i => by rw [F79_4]) (fun b i x post y hq hi hy => by
      obtain ⟨r, h1, e1⟩ := hq y
      refine ⟨r, e1, ?_⟩
      rw [F79_4, if_pos hi, hy]
      dsimp only
      rw [h1]
      cases r <;> rfl) xs y0.ar ih
    rw [F30, hr, h2]
    refine ⟨(k == y0.k) && ((nm == y0.nm) && ((n == y0.n) && (s && r))), ?_, by rw [Ex.eq_iff', ← e, ← e2]; simp⟩
    by_cases h : k = y0.k <;> by_cases g : nm = y0.nm <;> by_cases f : n = y0.n <;> cases r <;> cases s <;> simp [h, g, f]
theorem E92 : Eq2 F92 := by
  intro x
  induction x using Ex.ind with
  | _ k nm n t xs ih =>
    intro y0
    obtain ⟨s, h2, e2⟩ := E138 t y0.t
    obtain ⟨r, hr, e⟩ := lists3 Ex.row (fun l => F92_4 (Ex.mk y0.k y0.nm y0.n y0.t l)) (fun b i => by rw [F92_4]) (fun b i x post y hq hi hy => by
      obtain ⟨r, h1, e1⟩ := hq y
      refine ⟨r, e1, ?_⟩
      rw [F92_4, if_pos hi]
      simp only [Ex.ar]
      rw [hy]
      dsimp only
      rw [h1]
      cases r <;> rfl) xs y0.ar ih
    have hr : (if ((↑(List.length (List.map Ex.row xs)) : Int) != (↑(List.length (List.map Ex.row y0.ar)) : Int)) = true then some false else F92_4 y0 0 xs) = some r := by cases y0; exact hr
    rw [F92, hr, h2]
    refine ⟨(k == y0.k) && ((nm == y0.nm) && ((n == y0.n) && (s && r))), ?_, by rw [Ex.eq_iff', ← e, ← e2]; simp⟩
    by_cases h : k = y0.k <;> by_cases g : nm = y0.nm <;> by_cases f : n = y0.n <;> cases r <;> cases s <;> simp [h, g, f]
theorem E139 : Eq2 F139 := by
  intro x
  induction x using Ex.ind with
  | _ k nm n t xs ih =>
    intro y0
    obtain ⟨s, h2, e2⟩ := E51 t y0.t
    obtain ⟨r, hr, e⟩ := lists3 Ex.row F155_4 (fun b i => by rw [F155_4]) (fun b i x post y hq hi hy => by
      obtain ⟨r, h1, e1⟩ := hq y
      refine ⟨r, e1, ?_⟩
      rw [F155_4, if_pos hi, hy]
      dsimp only
      rw [h1]
      cases r <;> rfl) xs y0.ar ih
    rw [F139, hr, h2]
    refine ⟨(k == y0.k) && ((nm == y0.nm) && ((n == y0.n) && (s && r))), ?_, by rw [Ex.eq_iff', ← e, ← e2]; simp⟩
    by_cases h : k = y0.k <;> by_cases g : nm = y0.nm <;> by_cases f : n = y0.n <;> cases r <;> cases s <;> simp [h, g, f]
theorem Ch.eq_iff (x y : Ch) : x = y ↔ x.p = y.p ∧ x.e = y.e := by
  cases x; cases y; simp
theorem E96 : Eq2 F96 := by
  intro a b
  obtain ⟨r, h1, e1⟩ := E20 a.p b.p
  obtain ⟨s, h2, e2⟩ := E30 a.e b.e
  refine ⟨r && s, ?_, by rw [Ch.eq_iff, ← e1, ← e2]; simp⟩
  rw [F96, h1, h2]
  cases r <;> cases s <;> rfl
theorem E95 : Eq2 F95 := by
  intro a b
  obtain ⟨r, h1, e1⟩ := E120 a.p b.p
  obtain ⟨s, h2, e2⟩ := E139 a.e b.e
  refine ⟨r && s, ?_, by rw [Ch.eq_iff, ← e1, ← e2]; simp⟩
  rw [F95, h1, h2]
  cases r <;> cases s <;> rfl
theorem E42 : Eq2 F42 := by
  refine lists2 (f := Ch.row) (G := F42_4) (fun a b => by rw [F42]) (fun b i => by rw [F42_4]) fun b i x post y hi hy => ?_
  obtain ⟨r, h1, e1⟩ := E68 x.p y.p
  obtain ⟨s, h2, e2⟩ := E92 x.e y.e
  refine ⟨r && s, by rw [Ch.eq_iff, ← e1, ← e2]; simp, ?_⟩
  rw [F42_4, if_pos hi, hy]
  dsimp only
  rw [h1, h2]
  cases r <;> cases s <;> rfl
theorem E45 : Eq2 F45 := by
  refine lists2 (f := Ch.row) (G := F45_4) (fun a b => by rw [F45]) (fun b i => by rw [F45_4]) fun b i x post y hi hy => ?_
  obtain ⟨r, h1, e1⟩ := E96 x y
  refine ⟨r, e1, ?_⟩
  rw [F45_4, if_pos hi, hy]
  dsimp only
  rw [h1]
  cases r <;> rfl
theorem E94 : Eq2 F94 := by
  refine lists2 (f := Ch.row) (G := F94_4) (fun a b => by rw [F94]) (fun b i => by rw [F94_4]) fun b i x post y hi hy => ?_
  obtain ⟨r, h1, e1⟩ := E95 x y
  refine ⟨r, e1, ?_⟩
  rw [F94_4, if_pos hi, hy]
  dsimp only
  rw [h1]
  cases r <;> rfl
theorem E44 : Eq2 F44 := by
  intro a b
  obtain ⟨r, h1, e1⟩ := E94 a b
  exact ⟨r, by rw [F44, h1], e1⟩
theorem law9 (a b : List Ch) : F9 a b = some true := by
  rw [F9]
  split
  · rfl
  split
  · rfl
  obtain ⟨r, h1, h2⟩ := E42.agree E44 (F43 a) (F43 b)
  rw [h1, h2, E45.same, E45.same]
  simp
end Go.Gl
