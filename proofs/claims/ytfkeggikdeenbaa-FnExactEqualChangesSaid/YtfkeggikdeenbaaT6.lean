/- Comparisons of lists, element by element, inside a recursion. -/
import Derived.Test.YtfkeggikdeenbaaT4
namespace Go.Gl

theorem walk3 {α : Type} {Q : α → Prop} {G : List α → Int → List α → Option Bool}
    (h0 : ∀ b i, G b i [] = some true)
    (h1 : ∀ b i x post y, Q x → 0 ≤ i → b[i.toNat]? = some y → ∃ r : Bool, (r = true ↔ x = y) ∧ G b i (x :: post) = if r = true then G b (i + 1) post else some false) :
    ∀ (post pre' post' : List α) (i : Int), (∀ x ∈ post, Q x) → i = pre'.length → post.length = post'.length → ∃ r, G (pre' ++ post') i post = some r ∧ (r = true ↔ post = post')
  | [], pre', [], i, _, _, _ => ⟨true, h0 _ _, by simp⟩
  | x :: post, pre', y :: post', i, hQ, hi, hl => by
    obtain ⟨r, hr, e⟩ := h1 (pre' ++ y :: post') i x post y (hQ x (by simp)) (by omega) (by rw [hi]; simp)
    rw [e]
    cases r with
    | false => exact ⟨false, by simp, by simp at hr; simp [hr]⟩
    | true =>
      obtain rfl := hr.1 rfl
      obtain ⟨s, hs, es⟩ := walk3 h0 h1 post (pre' ++ [x]) post' (i + 1) (fun z hz => hQ z (by simp [hz])) (by simp [hi]) (by simpa using hl)
      refine ⟨s, ?_, by rw [es]; simp⟩
      rw [if_pos rfl, ← hs]; simp
theorem lists3 {α β : Type} {Q : α → Prop} (f : α → β) (G : List α → Int → List α → Option Bool)
    (h0 : ∀ b i, G b i [] = some true)
    (h1 : ∀ b i x post y, Q x → 0 ≤ i → b[i.toNat]? = some y → ∃ r : Bool, (r = true ↔ x = y) ∧ G b i (x :: post) = if r = true then G b (i + 1) post else some false)
    (a b : List α) (hQ : ∀ x ∈ a, Q x) :
    ∃ r, (if ((↑(List.length (List.map f a)) : Int) != (↑(List.length (List.map f b)) : Int)) = true then some false else G b 0 a) = some r ∧ (r = true ↔ a = b) := by
  simp only [List.length_map, bne_iff_ne, ne_eq]
  by_cases h : a.length = b.length
  · rw [if_neg (by omega)]
    obtain ⟨r, hr, e⟩ := walk3 h0 h1 a [] b 0 hQ rfl h
    exact ⟨r, by simpa using hr, e⟩
  · rw [if_pos (by omega)]
    exact ⟨false, rfl, by simp; intro h'; exact h (by rw [h'])⟩
theorem Ty.eq_iff (k k' : Int) (l l' : List Ty) : Ty.mk k l = Ty.mk k' l' ↔ k = k' ∧ l = l' :=
  ⟨fun h => Ty.mk.inj h, fun h => by rw [h.1, h.2]⟩
theorem Ex.eq_iff (a a' : Int) (b b' : List UInt8) (c c' : Int) (d d' : Ty) (e e' : List Ex) : Ex.mk a b c d e = Ex.mk a' b' c' d' e' ↔ a = a' ∧ b = b' ∧ c = c' ∧ d = d' ∧ e = e' :=
  ⟨fun h => Ex.mk.inj h, fun h => by rw [h.1, h.2.1, h.2.2.1, h.2.2.2.1, h.2.2.2.2]⟩
end Go.Gl
