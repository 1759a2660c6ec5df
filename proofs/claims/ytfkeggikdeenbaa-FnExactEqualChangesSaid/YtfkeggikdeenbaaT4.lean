/- Comparisons of lists, element by element. -/
import Derived.Test.YtfkeggikdeenbaaT1
namespace Go.Gl

/-- The function answers always, and says whether its two arguments are one. -/
def Eq2 {α : Type} (F : α → α → Option Bool) : Prop := ∀ a b, ∃ r, F a b = some r ∧ (r = true ↔ a = b)
theorem Eq2.same {α : Type} {F : α → α → Option Bool} (h : Eq2 F) (a : α) : F a a = some true := by
  obtain ⟨r, h1, h2⟩ := h a a
  rw [h1, h2.2 rfl]
theorem Eq2.agree {α : Type} {F G : α → α → Option Bool} (h : Eq2 F) (g : Eq2 G) (a b : α) : ∃ r, F a b = some r ∧ G a b = some r := by
  obtain ⟨r, h1, h2⟩ := h a b
  obtain ⟨s, g1, g2⟩ := g a b
  refine ⟨r, h1, ?_⟩
  rw [g1]
  cases r <;> cases s <;> simp_all
theorem walk2 {α : Type} {G : List α → Int → List α → Option Bool}
    (h0 : ∀ b i, G b i [] = some true)
    (h1 : ∀ b i x post y, 0 ≤ i → b[i.toNat]? = some y → ∃ r : Bool, (r = true ↔ x = y) ∧ G b i (x :: post) = if r = true then G b (i + 1) post else some false) :
    ∀ (post pre' post' : List α) (i : Int), i = pre'.length → post.length = post'.length → ∃ r, G (pre' ++ post') i post = some r ∧ (r = true ↔ post = post')
  | [], pre', [], i, _, _ => ⟨true, h0 _ _, by simp⟩
  | x :: post, pre', y :: post', i, hi, hl => by
    obtain ⟨r, hr, e⟩ := h1 (pre' ++ y :: post') i x post y (by omega) (by rw [hi]; simp)
    rw [e]
    cases r with
    | false => exact ⟨false, by simp, by simp at hr; simp [hr]⟩
    | true =>
      obtain rfl := hr.1 rfl
      obtain ⟨s, hs, es⟩ := walk2 h0 h1 post (pre' ++ [x]) post' (i + 1) (by simp [hi]) (by simpa using hl)
      refine ⟨s, ?_, by rw [es]; simp⟩
      rw [if_pos rfl, ← hs]; simp
theorem lists2 {α β : Type} {f : α → β} {G : List α → Int → List α → Option Bool} {F : List α → List α → Option Bool}
    (hF : ∀ a b, F a b = if ((↑(List.length (List.map f a)) : Int) != (↑(List.length (List.map f b)) : Int)) = true then some false else G b 0 a)
    (h0 : ∀ b i, G b i [] = some true)
    (h1 : ∀ b i x post y, 0 ≤ i → b[i.toNat]? = some y → ∃ r : Bool, (r = true ↔ x = y) ∧ G b i (x :: post) = if r = true then G b (i + 1) post else some false) :
    Eq2 F := by
  intro a b
  rw [hF]
  simp only [List.length_map, bne_iff_ne, ne_eq]
  by_cases h : a.length = b.length
  · rw [if_neg (by omega)]
    obtain ⟨r, hr, e⟩ := walk2 h0 h1 a [] b 0 rfl h
    exact ⟨r, by simpa using hr, e⟩
  · rw [if_pos (by omega)]
    exact ⟨false, rfl, by simp; intro h'; exact h (by rw [h'])⟩
end Go.Gl
