/- Slices are appended to. -/
import Derived.Test.YtfkeggikdeenbaaL14
set_option linter.unusedVariables false
set_option linter.unusedSimpArgs false
namespace Go.Gl
open Go.RowKit

/-- The cells of a slice's elements, side by side. -/
structure RowsV (w : World) (e : Nat) (xs : List (List D)) (A : Option Addr) (vs : List Value) (g : Nat → Nat → Value) : Prop where
  cell : ∀ a, A = some a → ∀ (k : Nat) (u : Value), vs[k]? = some u → w.cell? (a.add k) = some u
  none : A = none → xs = []
  len : vs.length = xs.length * e
  rows : ∀ (i : Nat) (x : List D), xs[i]? = some x → x.length = e
  get : ∀ (i j : Nat) (x : List D) (d : D), xs[i]? = some x → x[j]? = some d → vs[i * e + j]? = some (g i j)

theorem rows_at {xs : List (List D)} {e k : Nat} (hx : ∀ (i : Nat) (x : List D), xs[i]? = some x → x.length = e) (hk : k < xs.length * e) : ∃ i j x d, k = i * e + j ∧ xs[i]? = some x ∧ x[j]? = some d := by
  obtain ⟨i, j, hi, hj, rfl⟩ := row_lt hk
  have h1 : xs[i]? = some xs[i] := List.getElem?_eq_getElem hi
  have h2 := hx i _ h1
  exact ⟨i, j, xs[i], xs[i][j]'(by omega), rfl, h1, List.getElem?_eq_getElem (by omega)⟩

theorem RowsV.one {w : World} {e : Nat} {xs : List (List D)} {A : Option Addr} {vs : List Value} {g : Nat → Nat → Value} (h : RowsV w e xs A vs g) (h1 : ∀ (i j : Nat) (x : List D) (d : D), xs[i]? = some x → x[j]? = some d → (g i j).oneCell' = true) :
    ∀ u ∈ vs, u.oneCell' = true := by
  intro u hu
  obtain ⟨k, hk⟩ := List.mem_iff_getElem?.1 hu
  have hlt := (List.getElem?_eq_some_iff.1 hk).1
  rw [h.len] at hlt
  obtain ⟨i, j, x, d, rfl, e1, e2⟩ := rows_at h.rows hlt
  rw [h.get i j x d e1 e2] at hk
  obtain rfl := Option.some.inj hk
  exact h1 i j x d e1 e2

section
variable {P : Program} {en : En} {st : St} {Fr : Nat → Prop} {a : Act} {w w' w0 : World} {W K X : CS} {K0 : Kb} {o : Oper} {f : Nat}

theorem mkvs {xs : List (List D)} {e : Nat} (g : Nat → Nat → Value) (hx : ∀ (i : Nat) (x : List D), xs[i]? = some x → x.length = e) :
    ∃ vs : List Value, vs.length = xs.length * e ∧ (∀ (i j : Nat) (x : List D) (d : D), xs[i]? = some x → x[j]? = some d → vs[i * e + j]? = some (g i j)) ∧ ∀ (k : Nat) (u : Value), vs[k]? = some u → ∃ i j x d, k = i * e + j ∧ xs[i]? = some x ∧ x[j]? = some d ∧ u = g i j := by
  have hget : ∀ (i j : Nat) (x : List D) (d : D), xs[i]? = some x → x[j]? = some d → ((List.range (xs.length * e)).map fun k => g (k / e) (k % e))[i * e + j]? = some (g i j) := by
    intro i j x d h1 h2
    have ⟨hi, hj⟩ := len_of hx h1 h2
    have hlt := idx_lt hi hj
    have hd : (i * e + j) / e = i := by rw [Nat.mul_comm, Nat.mul_add_div (by omega), Nat.div_eq_of_lt hj, Nat.add_zero]
    have hm : (i * e + j) % e = j := by rw [Nat.mul_comm, Nat.mul_add_mod]; exact Nat.mod_eq_of_lt hj
    simp [hlt, hd, hm]
  refine ⟨_, by simp, hget, fun k u hu => ?_⟩
  have hlt := (List.getElem?_eq_some_iff.1 hu).1
  obtain ⟨i, j, x, d, rfl, h1, h2⟩ := rows_at hx (k := k) (by simpa using hlt)
  rw [hget i j x d h1 h2] at hu
  exact ⟨i, j, x, d, rfl, h1, h2, (Option.some.inj hu).symm⟩

theorem repD_rows {B e : Nat} {xs : List (List D)} {v : Value} (h : RepD w K (.sl B xs) v) (hx : ∀ (i : Nat) (x : List D), xs[i]? = some x → x.length = e) :
    ∃ A cap vs g, v = .slice A xs.length cap ∧ RowsV w e xs A vs g ∧ ∀ (i j : Nat) (x : List D) (d : D), xs[i]? = some x → x[j]? = some d → RepD w K d (g i j) := by
  cases h with
  | nil =>
    rename_i A cap
    exact ⟨A, cap, [], fun _ _ => undef, rfl, ⟨fun _ _ k u h => by simp at h, fun _ => rfl, by simp, hx, fun i j x d h1 _ => by simp at h1⟩, fun i j x d h1 _ => by simp at h1⟩
  | sl e' g hs hb hm hn hx' hc hr =>
    rename_i ad cap
    obtain ⟨vs, h1, h2, h3⟩ := mkvs g hx
    refine ⟨some ad, cap, vs, g, rfl, ⟨fun a ha k u hk => ?_, fun h => (nomatch h), h1, hx, h2⟩, hr⟩
    obtain rfl := Option.some.inj ha
    obtain ⟨i, j, x, d, rfl, q1, q2, rfl⟩ := h3 k u hk
    have := (hc i j x d q1 q2).2
    have he : e = e' := (hx i x q1).symm.trans (hx' i x q1)
    subst he
    obtain ⟨b, off, sp⟩ := ad
    simp only at hs
    subst hs
    rw [add_none]
    exact this

theorem TokRep.rows {t : Tok} {v : Value} {F : CS} (h : TokRep w K t v F) : ∀ (i : Nat) (x : List D), t.xs[i]? = some x → x.length = t.e := by
  cases h with
  | nil => exact fun i x h => by simp at h
  | one f hh hz hn hcm hb hx => exact hx
  | two f hh hz hn hcm hb hx => exact hx
  | three f G hh hz hn hcm hb hx => exact hx

theorem TokRep.deepRows {t : Tok} {v : Value} {F : CS} (h : TokRep w K t v F) (hl : t.L = 3) :
    ∃ A cap vs g, ∃ G : Nat → Nat → CS, v = .slice A t.xs.length cap ∧ RowsV w t.e t.xs A vs g ∧ (∀ (i j : Nat) (x : List D) (d : D), t.xs[i]? = some x → x[j]? = some d → DeepD w d (g i j) (G i j)) ∧
      (∀ (i j : Nat) (x : List D) (d : D), t.xs[i]? = some x → x[j]? = some d → ∀ b o, G i j b o → F b o) ∧
      (∀ (i j : Nat) (x : List D) (d : D) (i' j' : Nat) (x' : List D) (d' : D), t.xs[i]? = some x → x[j]? = some d → t.xs[i']? = some x' → x'[j']? = some d' → (i, j) ≠ (i', j') → ∀ b o, G i j b o → ¬ G i' j' b o) := by
  cases h with
  | nil => exact ⟨none, 0, [], fun _ _ => undef, fun _ _ _ _ => False, rfl, ⟨fun _ h => (nomatch h), fun _ => rfl, by simp, fun i x h => (by simp at h), fun i j x d h1 _ => (by simp at h1)⟩, fun i j x d h1 _ => by simp at h1, fun i j x d h1 _ => by simp at h1, fun i j x d i' j' x' d' h1 => by simp at h1⟩
  | one => cases hl
  | two => cases hl
  | three g G hh hz hn hcm hb hx hc hr hg hd =>
    rename_i T e B xs blk cap arr
    obtain ⟨vs, h1, h2, h3⟩ := mkvs g hx
    refine ⟨some ⟨blk, 0, none⟩, cap, vs, g, G, rfl, ⟨fun a ha k u hk => ?_, fun h => (nomatch h), h1, hx, h2⟩, hr, fun i j x d q1 q2 b o hG => .inr ⟨i, j, x, d, q1, q2, hG⟩, hd⟩
    obtain rfl := Option.some.inj ha
    obtain ⟨i, j, x, d, rfl, q1, q2, rfl⟩ := h3 k u hk
    rw [add_none, Nat.zero_add, cell?_cells hh]
    exact hc i j x d q1 q2

theorem RowsV.src {e : Nat} {xs : List (List D)} {A : Option Addr} {vs : List Value} {g : Nat → Nat → Value} (h : RowsV w e xs A vs g) {tx e' : TypeId} (hk : P.underlying tx = some (.slice e')) (cap : Nat) (h1 : ∀ u ∈ vs, u.oneCell' = true) : Src P e tx (.slice A xs.length cap) xs.length vs w := by
  cases A with
  | some ad => exact Src.ofSlice w hk ad xs.length cap vs h.len (h.cell ad rfl) h1
  | none =>
    have hx := h.none rfl
    have hv : vs = [] := by have := h.len; rw [hx] at this; simpa using this
    rw [hx, hv]
    exact Src.ofNil w hk cap

theorem RowsV.first {e : Nat} {xs : List (List D)} {A : Option Addr} {vs : List Value} {g : Nat → Nat → Value} (h : RowsV w e xs A vs g) (cap : Nat) :
    (Builtin.firstCells e xs.length (.slice A xs.length cap)).run P w.drew = .ok vs.toArray w.drew := by
  cases A with
  | some ad => exact run_firstCells_some w.drew e xs.length ad xs.length cap vs h.len (by simpa using h.cell ad rfl)
  | none =>
    have hx := h.none rfl
    have hv : vs = [] := by have := h.len; rw [hx] at this; simpa using this
    rw [hv]
    exact run_firstCells_none w.drew e xs.length xs.length cap

/-- Two pieces side by side. -/
def join {α : Type} (n : Nat) (g g' : Nat → α) (i : Nat) : α := if i < n then g i else g' (i - n)

theorem join_get {α : Type} {xs ys : List α} {i : Nat} {x : α} (h : (xs ++ ys)[i]? = some x) : (i < xs.length ∧ xs[i]? = some x) ∨ (xs.length ≤ i ∧ ys[i - xs.length]? = some x) := by
  by_cases hi : i < xs.length
  · rw [List.getElem?_append_left hi] at h; exact .inl ⟨hi, h⟩
  · rw [List.getElem?_append_right (by omega)] at h; exact .inr ⟨by omega, h⟩

theorem join_lt {α : Type} {n i : Nat} {g g' : Nat → α} (h : i < n) : join n g g' i = g i := if_pos h
theorem join_ge {α : Type} {n i : Nat} {g g' : Nat → α} (h : n ≤ i) : join n g g' i = g' (i - n) := if_neg (by omega)

theorem join_rows {xs ys : List (List D)} {e : Nat} (hx : ∀ (i : Nat) (x : List D), xs[i]? = some x → x.length = e) (hy : ∀ (i : Nat) (x : List D), ys[i]? = some x → x.length = e) : ∀ (i : Nat) (x : List D), (xs ++ ys)[i]? = some x → x.length = e := by
  intro i x h
  rcases join_get h with ⟨_, h⟩ | ⟨_, h⟩
  · exact hx i x h
  · exact hy _ x h

theorem join_vs {xs ys : List (List D)} {e : Nat} {us vs : List Value} {g g' : Nat → Nat → Value} (hl : us.length = xs.length * e)
    (hx : ∀ (i j : Nat) (x : List D) (d : D), xs[i]? = some x → x[j]? = some d → us[i * e + j]? = some (g i j)) (hy : ∀ (i j : Nat) (x : List D) (d : D), ys[i]? = some x → x[j]? = some d → vs[i * e + j]? = some (g' i j)) :
    ∀ (i j : Nat) (x : List D) (d : D), (xs ++ ys)[i]? = some x → x[j]? = some d → (us ++ vs)[i * e + j]? = some (join xs.length g g' i j) := by
  intro i j x d h1 h2
  rcases join_get h1 with ⟨h, h1⟩ | ⟨h, h1⟩
  · have := hx i j x d h1 h2
    rw [List.getElem?_append_left (List.getElem?_eq_some_iff.1 this).1, join_lt h]; exact this
  · have e1 : i * e + j = xs.length * e + ((i - xs.length) * e + j) := by
      have : (xs.length + (i - xs.length)) * e = xs.length * e + (i - xs.length) * e := Nat.add_mul ..
      rw [show xs.length + (i - xs.length) = i by omega] at this
      omega
    rw [e1, ← hl, List.getElem?_append_right (by omega), join_ge h, Nat.add_sub_cancel_left]
    exact hy _ j x d h1 h2

/-- There is room: the row that is written. -/
theorem run_append_room_row {t tx ty e : TypeId} {i : TypeInfo} (ht : P.underlying t = some (.slice e)) (hi : P.info? e = some i) {b sLen sCap : Nat} {cur : Array Value} {T : TypeId} (hg : w.heap[b]? = some (.cells cur T (0, 0))) {x : Value} {n : Nat} {news : List Value}
    (hs : Src P i.size tx x n news w) (hroom : sLen + n ≤ sCap) (hz : sLen * i.size + news.length ≤ cur.size) :
    (Builtin.append_ #[t, tx] ty #[.slice (some ⟨b, 0, none⟩) sLen sCap, x]).run P w = .ok (.slice (some ⟨b, 0, none⟩) (sLen + n) sCap) (w.setRow b (cur.toList.take (sLen * i.size) ++ news ++ cur.toList.drop (sLen * i.size + news.length)).toArray) := by
  have hst := run_storeCells_at P b (sLen * i.size) T news 0 cur w hg (by simpa using hz) hs.one
  simp only [Nat.add_zero] at hst
  rcases hs.kind with ⟨e', hk⟩ | hk <;> simp [Builtin.append_, run_underlying ht, run_underlying hk, sizeOf, typeInfo, hi, hs.len, hroom, hs.cells, Addr.add_lit, hst]

/-- Nothing is appended to nothing. -/
theorem run_append_none {t tx ty e : TypeId} {i : TypeInfo} (ht : P.underlying t = some (.slice e)) (hi : P.info? e = some i) {x : Value} {news : List Value} (hs : Src P i.size tx x 0 news w) :
    (Builtin.append_ #[t, tx] ty #[.slice none 0 0, x]).run P w = .ok (.slice none 0 0) w := by
  rcases hs.kind with ⟨e', hk⟩ | hk <;> simp [Builtin.append_, run_underlying ht, run_underlying hk, sizeOf, typeInfo, hi, hs.len, hs.cells]

end
end Go.Gl
