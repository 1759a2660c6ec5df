/- The two functions StatusText, of the reference and of the program, give the same text for every list of at most 2^20 numbers, and leave it as it was. No further conditions. -/
import Derived.Test.YtfkeggikdeenbaaPFnExactStatusTextx1
namespace Go.Proofs.Ytfkeggikdeenbaa.Pure
open Go.RowKit Go.Proofs.Ytfkeggikdeenbaa.PFnExactStatusText Go.Proofs.YtfkeggikdeenbaaW.PrintWords Go.Proofs.YtfkeggikdeenbaaW.PrintLast

def stepSt (s : ByteArray) (v : Int) : ByteArray :=
  if 1 ≤ v ∧ v ≤ 4 then s ++ ((⟨#[112, 102, 111, 115]⟩ : ByteArray).extract (v - 1).toNat v.toNat) else s ++ (⟨#[63]⟩ : ByteArray)

theorem stepSt_size (s : ByteArray) (v : Int) : (stepSt s v).size = s.size + 1 := by
  unfold stepSt
  split
  · rename_i h
    have : v = 1 ∨ v = 2 ∨ v = 3 ∨ v = 4 := by omega
    rcases this with rfl | rfl | rfl | rfl <;> rw [ByteArray.size_append] <;> rfl
  · rw [ByteArray.size_append]; rfl

theorem piece_size (v : Int) (h : 1 ≤ v ∧ v ≤ 4) : ((⟨#[112, 102, 111, 115]⟩ : ByteArray).extract (v - 1).toNat v.toNat).size = 1 := by
  have : v = 1 ∨ v = 2 ∨ v = 3 ∨ v = 4 := by omega
  rcases this with rfl | rfl | rfl | rfl <;> rfl

theorem wrap_up {i : Int} {n : Nat} (h0 : 0 ≤ i) (h : i < (n : Int)) (hn : n ≤ 1048576) : wrap64 (i + 1) = i + 1 := by
  unfold wrap64; omega

theorem wrap_down {v : Int} (h0 : 1 ≤ v) (h1 : v ≤ 4) : wrap64 (v - 1) = v - 1 := by
  unfold wrap64; omega

theorem drop_rd (xs : List Int) (i : Int) (h0 : 0 ≤ i) (h : i < (xs.length : Int)) : xs.drop i.toNat = rd xs i :: xs.drop (i + 1).toNat := by
  have hl : i.toNat < xs.length := by omega
  have e : (i + 1).toNat = i.toNat + 1 := by omega
  rw [e, List.drop_eq_getElem_cons hl]
  unfold rd
  simp [List.getD, hl]

theorem in_some (v : Int) : spec_l1In.f v 1 4 = some (decide (1 ≤ v ∧ v ≤ 4)) := by
  unfold spec_l1In.f
  by_cases h : v ≥ 1
  · rw [if_pos h]; congr 1; by_cases h2 : v ≤ 4 <;> simp [h2]; omega
  · rw [if_neg h]; congr 1; symm; simp; omega

theorem spec_loop (xs : List Int) (hx : xs.length ≤ 1048576) (d : Nat) : ∀ (k : Nat) (s : ByteArray) (i : Int), 0 ≤ i → i ≤ xs.length → (xs.length : Int) - i = d → d < k → (s.size : Int) ≤ i →
    spec_StatusText.l0 k xs s i = some ((xs.drop i.toNat).foldl stepSt s) := by
  induction d with
  | zero =>
    intro k s i h0 h1 hd hk hs
    obtain ⟨k, rfl⟩ : ∃ m, k = m + 1 := ⟨k - 1, by omega⟩
    simp only [spec_StatusText.l0]
    rw [if_neg (by omega), List.drop_of_length_le (by omega)]
    rfl
  | succ d ih =>
    intro k s i h0 h1 hd hk hs
    obtain ⟨k, rfl⟩ : ∃ m, k = m + 1 := ⟨k - 1, by omega⟩
    have hlt : i < (xs.length : Int) := by omega
    rw [drop_rd xs i h0 hlt, List.foldl_cons]
    simp only [spec_StatusText.l0]
    rw [if_pos hlt, if_pos h0, in_some, Option.bind_some, wrap_up h0 hlt hx]
    have hz := stepSt_size s (rd xs i)
    by_cases hv : 1 ≤ rd xs i ∧ rd xs i ≤ 4
    · have hst : stepSt s (rd xs i) = s ++ ((⟨#[112, 102, 111, 115]⟩ : ByteArray).extract (rd xs i - 1).toNat (rd xs i).toNat) := by unfold stepSt; rw [if_pos hv]
      rw [if_pos (decide_eq_true hv), wrap_down hv.1 hv.2, if_pos (by omega), if_pos (by omega), if_pos hv.2, piece_size _ hv, if_pos (by omega), ← hst]
      exact ih k _ (i + 1) (by omega) (by omega) (by omega) (by omega) (by omega)
    · have hst : stepSt s (rd xs i) = s ++ (⟨#[63]⟩ : ByteArray) := by unfold stepSt; rw [if_neg hv]
      rw [if_neg (by simpa using hv), if_pos (by omega), ← hst]
      exact ih k _ (i + 1) (by omega) (by omega) (by omega) (by omega) (by omega)

theorem impl_loop (xs : List Int) (hx : xs.length ≤ 1048576) (d : Nat) : ∀ (k : Nat) (s : ByteArray) (i : Int), 0 ≤ i → i ≤ xs.length → (xs.length : Int) - i = d → d < k → (s.size : Int) ≤ i →
    impl_StatusText.l0 k s xs (xs.length : Int) i = some ((xs.drop i.toNat).foldl stepSt s) := by
  induction d with
  | zero =>
    intro k s i h0 h1 hd hk hs
    obtain ⟨k, rfl⟩ : ∃ m, k = m + 1 := ⟨k - 1, by omega⟩
    simp only [impl_StatusText.l0]
    rw [if_neg (by omega), List.drop_of_length_le (by omega)]
    rfl
  | succ d ih =>
    intro k s i h0 h1 hd hk hs
    obtain ⟨k, rfl⟩ : ∃ m, k = m + 1 := ⟨k - 1, by omega⟩
    have hlt : i < (xs.length : Int) := by omega
    rw [drop_rd xs i h0 hlt, List.foldl_cons]
    simp only [impl_StatusText.l0]
    rw [if_pos hlt, if_pos h0, if_pos hlt, wrap_up h0 hlt hx]
    have hz := stepSt_size s (rd xs i)
    by_cases hv : 1 ≤ rd xs i ∧ rd xs i ≤ 4
    · have hst : stepSt s (rd xs i) = s ++ ((⟨#[112, 102, 111, 115]⟩ : ByteArray).extract (rd xs i - 1).toNat (rd xs i).toNat) := by unfold stepSt; rw [if_pos hv]
      rw [if_neg (by omega), if_neg (by omega), wrap_down hv.1 hv.2, if_pos (by omega), if_pos (by omega), if_pos hv.2, piece_size _ hv, if_pos (by omega), ← hst]
      exact ih k _ (i + 1) (by omega) (by omega) (by omega) (by omega) (by omega)
    · have hst : stepSt s (rd xs i) = s ++ (⟨#[63]⟩ : ByteArray) := by unfold stepSt; rw [if_neg hv]
      by_cases hl : rd xs i < 1
      · rw [if_pos hl, if_pos (by omega), ← hst]
        exact ih k _ (i + 1) (by omega) (by omega) (by omega) (by omega) (by omega)
      · rw [if_neg hl, if_pos (by omega), if_pos (by omega), ← hst]
        exact ih k _ (i + 1) (by omega) (by omega) (by omega) (by omega) (by omega)

theorem to_loop (xs : List Int) (hx : xs.length ≤ 1048576) (d : Nat) : ∀ (k : Nat) (out : List Int) (i : Int), 0 ≤ i → i ≤ xs.length → (xs.length : Int) - i = d → d < k → out.length = xs.length → out.take i.toNat = xs.take i.toNat →
    laws_toIntS.l0 k xs out i = some xs := by
  induction d with
  | zero =>
    intro k out i h0 h1 hd hk hl ht
    obtain ⟨k, rfl⟩ : ∃ m, k = m + 1 := ⟨k - 1, by omega⟩
    simp only [laws_toIntS.l0]
    rw [if_neg (by omega)]
    rw [List.take_of_length_le (by omega), List.take_of_length_le (by omega)] at ht
    rw [ht]
  | succ d ih =>
    intro k out i h0 h1 hd hk hl ht
    obtain ⟨k, rfl⟩ : ∃ m, k = m + 1 := ⟨k - 1, by omega⟩
    have hlt : i < (xs.length : Int) := by omega
    simp only [laws_toIntS.l0]
    rw [if_pos hlt, if_pos h0, if_pos (by omega), wrap_up h0 hlt hx]
    refine ih k _ (i + 1) (by omega) (by omega) (by omega) (by omega) (by simp [hl]) ?_
    have e : (i + 1).toNat = i.toNat + 1 := by omega
    have hn : i.toNat < xs.length := by omega
    rw [e, List.take_succ_eq_append_getElem hn, List.take_succ_eq_append_getElem (by simp; omega), List.take_set_of_le (Nat.le_refl _), ht]
    congr 2
    simp only [List.getElem_set_self]
    unfold rd
    simp [List.getD, hn]

theorem to_some (xs : List Int) (hx : xs.length ≤ 1048576) (k : Nat) (hk : xs.length < k) : laws_toIntS.f k xs = some xs := by
  unfold laws_toIntS.f
  rw [if_pos (by omega), if_pos (by omega)]
  exact to_loop xs hx xs.length k _ 0 (by omega) (by omega) (by omega) hk (by simp) (by simp)

theorem eq_loop (xs : List Int) (hx : xs.length ≤ 1048576) (d : Nat) : ∀ (k : Nat) (i : Int), 0 ≤ i → i ≤ xs.length → (xs.length : Int) - i = d → d < k → laws_eqIntS.l0 k xs xs i = some true := by
  induction d with
  | zero =>
    intro k i h0 h1 hd hk
    obtain ⟨k, rfl⟩ : ∃ m, k = m + 1 := ⟨k - 1, by omega⟩
    simp only [laws_eqIntS.l0]
    rw [if_neg (by omega)]
  | succ d ih =>
    intro k i h0 h1 hd hk
    obtain ⟨k, rfl⟩ : ∃ m, k = m + 1 := ⟨k - 1, by omega⟩
    have hlt : i < (xs.length : Int) := by omega
    simp only [laws_eqIntS.l0]
    rw [if_pos hlt, if_pos h0, if_pos hlt, if_pos trivial, wrap_up h0 hlt hx]
    exact ih k (i + 1) (by omega) (by omega) (by omega) (by omega)

theorem FnExactStatusText : laws_FnExactStatusText.Pure := by
  intro xs _ _ _
  by_cases hx : (xs.length : Int) > 1048576
  · exact ⟨1, by unfold laws_FnExactStatusText.f; rw [if_pos hx]⟩
  · have hx' : xs.length ≤ 1048576 := by omega
    refine ⟨xs.length + 1, ?_⟩
    unfold laws_FnExactStatusText.f
    have h1 : spec_StatusText.f (xs.length + 1) xs = some (xs.foldl stepSt (⟨#[]⟩ : ByteArray)) := by
      unfold spec_StatusText.f
      exact spec_loop xs hx' xs.length _ _ 0 (by omega) (by omega) (by omega) (by omega) (by show ((0 : Nat) : Int) ≤ 0; omega)
    have h2 : impl_StatusText.f (xs.length + 1) xs = some (xs.foldl stepSt (⟨#[]⟩ : ByteArray)) := by
      unfold impl_StatusText.f
      exact impl_loop xs hx' xs.length _ _ 0 (by omega) (by omega) (by omega) (by omega) (by show ((0 : Nat) : Int) ≤ 0; omega)
    have h3 : laws_eqIntS.f (xs.length + 1) xs xs = some true := by
      unfold laws_eqIntS.f
      rw [if_pos rfl]
      exact eq_loop xs hx' xs.length _ 0 (by omega) (by omega) (by omega) (by omega)
    rw [if_neg hx, to_some xs hx' _ (by omega)]
    simp only [Option.bind_some, h1, h2, h3, if_true]

end Go.Proofs.Ytfkeggikdeenbaa.Pure
