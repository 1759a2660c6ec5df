/- How a state and what it tells may change. -/
import Derived.Test.YtfkeggikdeenbaaL2
import Derived.Test.YtfkeggikdeenbaaL3
set_option linter.unusedVariables false
set_option linter.unusedSimpArgs false
namespace Go.Gl
open Go.RowKit

theorem beq_nat (a b : Nat) : Nat.beq a b = decide (a = b) := by
  rw [Bool.eq_iff_iff]; simp

theorem upd_self {α : Type} (f : Nat → α) (d : Nat) (v : α) : upd f d v d = v := by simp [upd, beq_nat]

theorem upd_ne {α : Type} (f : Nat → α) (d : Nat) (v : α) {i : Nat} (h : i ≠ d) : upd f d v i = f i := by simp [upd, beq_nat, h]

theorem upd_eq {α : Type} (f : Nat → α) (d : Nat) (v : α) (i : Nat) : upd f d v i = if i = d then v else f i := by
  unfold upd; rw [beq_nat]; by_cases h : i = d <;> simp [h]

theorem CellRep.env {w : World} {en en' : En} {c : Cell} {v : Value} (h : CellRep w en c v) (hk : ∀ b o, en.K b o → en'.K b o) (hv : ∀ i, c.men i → en'.VT i = en.VT i) : CellRep w en' c v := by
  cases h with
  | any h => exact .any h
  | c h => exact .c (h.mono hk)
  | nil => exact .nil
  | tk h =>
    rename_i t
    have := hv t rfl
    rw [← this] at h ⊢
    exact .tk h

theorem CellsRep.env {w : World} {en en' : En} {cs : List Cell} {arr : Array Value} (h : CellsRep w en cs arr) (hk : ∀ b o, en.K b o → en'.K b o) (hv : ∀ i, cellsMen i cs → en'.VT i = en.VT i) : CellsRep w en' cs arr :=
  ⟨h.1, fun j c hj => let ⟨u, h1, h2⟩ := h.2 j c hj; ⟨u, h1, h2.env hk fun i hi => hv i ⟨c, List.mem_of_getElem? hj, hi⟩⟩⟩

theorem ValRep.env {w : World} {en en' : En} {b : Bool} {cs : List Cell} {v : Value} (h : ValRep w en b cs v) (hk : ∀ b o, en.K b o → en'.K b o) (hv : ∀ i, cellsMen i cs → en'.VT i = en.VT i) : ValRep w en' b cs v := by
  cases h with
  | one h => exact .one (h.env hk fun i hi => hv i ⟨_, by simp, hi⟩)
  | agg h => exact .agg (h.env hk hv)

theorem SlotRep.env {w : World} {en en' : En} {tok tok' : Nat → Option Tok} {s : Slot} {v : Value} (h : SlotRep w en tok s v) (hk : ∀ b o, en.K b o → en'.K b o)
    (hv : ∀ i, s.men i → en'.VT i = en.VT i) (hb : ∀ i, s.men i → en'.FB i = en.FB i)
    (ht : ∀ i tk', s.men i → tok' i = some tk' → ∃ tk, tok i = some tk ∧ tk.e = tk'.e ∧ tk.xs.length ≤ tk'.xs.length) : SlotRep w en' tok' s v := by
  cases h with
  | any => exact .any
  | v h => exact .v (h.env hk fun i hi => hv i hi)
  | tup hz h => exact .tup hz fun j x hj => let ⟨u, h1, h2⟩ := h j x hj; ⟨u, h1, h2.env hk fun i hi => hv i ⟨x, List.mem_of_getElem? hj, hi⟩⟩
  | lp =>
    rename_i b off
    rw [← hb b rfl]
    exact .lp
  | cp h hi hs => exact .cp (h.mono hk) hi hs
  | ep h =>
    rename_i t i off
    refine .ep fun tk' htk' => ?_
    obtain ⟨tk, h1, h2, h3⟩ := ht t tk' rfl htk'
    obtain ⟨hi, g, n, cap, h4, h5⟩ := h tk h1
    exact ⟨by omega, g, n, cap, by rw [hv t rfl]; exact h4, by rw [← h2]; exact h5⟩
  | fn =>
    rename_i f caps
    have : (caps.map fun b => Value.pointer (some ⟨en.FB b, 0, none⟩)) = caps.map fun b => Value.pointer (some ⟨en'.FB b, 0, none⟩) := by
      apply List.map_congr_left
      intro b hb'
      rw [hb b hb']
    rw [this]
    exact .fn
  | un h => exact .un h

theorem BoxRep.env {w : World} {en en' : En} {g : Nat} {cs : List Cell} (h : BoxRep w en g cs) (hk : ∀ b o, en.K b o → en'.K b o) (hv : ∀ i, cellsMen i cs → en'.VT i = en.VT i) : BoxRep w en' g cs :=
  let ⟨arr, T, h1, h2⟩ := h; ⟨arr, T, h1, h2.env hk hv⟩

theorem RepD.noW {w : World} {K K' : CS} {d : D} {v : Value} (h : RepD w K d v) (hk : ∀ b o, K b o → K' b o) : RepD w K' d v := h.mono hk

theorem TokRep.mono {w : World} {K K' : CS} {t : Tok} {v : Value} {F : CS} (h : TokRep w K t v F) (hk : ∀ b o, K b o → K' b o) : TokRep w K' t v F := by
  cases h with
  | nil => exact .nil
  | one f hh hz hn hcm hb hx hc hk' hr => exact .one f hh hz hn hcm hb hx hc (fun i j x d h1 h2 => hk _ _ (hk' i j x d h1 h2)) fun i j x d h1 h2 => (hr i j x d h1 h2).mono hk
  | two f hh hz hn hcm hb hx hc hr => exact .two f hh hz hn hcm hb hx hc fun i j x d h1 h2 => (hr i j x d h1 h2).mono hk
  | three f G hh hz hn hcm hb hx hc hr hg hd => exact .three f G hh hz hn hcm hb hx hc hr hg hd

theorem heap_lt {w : World} {g : Nat} {o : Obj} (h : w.heap[g]? = some o) : g < w.heap.size := (Array.getElem?_eq_some_iff.1 h).1

theorem DeepD.lt {w : World} {d : D} {v : Value} {F : CS} (h : DeepD w d v F) : ∀ b o, F b o → b < w.heap.size := by
  induction h with
  | sl e f G hh hz hn hcm hb hx hc hr hg hd ih =>
    rintro b o (⟨rfl, _⟩ | ⟨i, j, x, d, h1, h2, hG⟩)
    · exact heap_lt hh
    · exact ih i j x d h1 h2 b o hG
  | _ => exact fun _ _ h => h.elim

theorem TokRep.lt {w : World} {K : CS} {t : Tok} {v : Value} {F : CS} (h : TokRep w K t v F) : ∀ b o, F b o → b < w.heap.size := by
  cases h with
  | nil => exact fun _ _ h => h.elim
  | one f hh hz hn hcm hb hx hc hk' hr => rintro b o ⟨rfl, _⟩; exact heap_lt hh
  | two f hh hz hn hcm hb hx hc hr => rintro b o ⟨rfl, _⟩; exact heap_lt hh
  | three f G hh hz hn hcm hb hx hc hr hg hd =>
    rintro b o (⟨rfl, _⟩ | ⟨i, j, x, d, h1, h2, hG⟩)
    · exact heap_lt hh
    · exact (hr i j x d h1 h2).lt b o hG

theorem idx_lt {e n i j : Nat} (hi : i < n) (hj : j < e) : i * e + j < n * e := by
  have : (i + 1) * e ≤ n * e := Nat.mul_le_mul_right _ hi
  rw [Nat.add_mul] at this
  omega

theorem len_of {xs : List (List D)} {e i j : Nat} {x : List D} {d : D} (hx : ∀ (i : Nat) (x : List D), xs[i]? = some x → x.length = e) (h1 : xs[i]? = some x) (h2 : x[j]? = some d) : i < xs.length ∧ j < e :=
  ⟨(List.getElem?_eq_some_iff.1 h1).1, by have := (List.getElem?_eq_some_iff.1 h2).1; rw [hx i x h1] at this; exact this⟩

/-- What is owned may be read, once it is owned no more. -/
theorem DeepD.repD {w : World} {K : CS} {d : D} {v : Value} {F : CS} (h : DeepD w d v F) (hk : ∀ b o, F b o → K b o) : RepD w K d v := by
  induction h with
  | int h => exact .int h
  | bool => exact .bool
  | str h => exact .str h
  | nil => exact .nil
  | sl e f G hh hz hn hcm hb hx hc hr hg hd ih =>
    refine .sl e f rfl hb (by omega) hn hx (fun i j x d h1 h2 => ?_) fun i j x d h1 h2 => ih i j x d h1 h2 fun b o hG => hk _ _ (.inr ⟨i, j, x, d, h1, h2, hG⟩)
    have ⟨hi, hj⟩ := len_of hx h1 h2
    have hlt := idx_lt (Nat.lt_of_lt_of_le hi hn) hj
    refine ⟨hk _ _ (.inl ⟨rfl, by simpa using hlt⟩), ?_⟩
    rw [Nat.zero_add, cell?_cells hh]
    exact hc i j x d h1 h2

theorem TokRep.repD {w : World} {K K' : CS} {t : Tok} {v : Value} {F : CS} (h : TokRep w K t v F) (hk : ∀ b o, K b o → K' b o) (hf : ∀ b o, F b o → K' b o) : RepD w K' (.sl t.B t.xs) v := by
  cases h with
  | nil => exact .nil
  | one f hh hz hn hcm hb hx hc hk' hr =>
    exact .sl _ f rfl hb (Nat.le_trans hn hcm) hn hx (fun i j x d h1 h2 => ⟨by simpa using hk _ _ (hk' i j x d h1 h2), by rw [Nat.zero_add, cell?_cells hh]; exact hc i j x d h1 h2⟩) fun i j x d h1 h2 => (hr i j x d h1 h2).mono hk
  | two f hh hz hn hcm hb hx hc hr =>
    refine .sl _ f rfl hb (Nat.le_trans hn hcm) hn hx (fun i j x d h1 h2 => ?_) fun i j x d h1 h2 => (hr i j x d h1 h2).mono hk
    have ⟨hi, hj⟩ := len_of hx h1 h2
    exact ⟨by simpa using hf _ _ ⟨rfl, idx_lt (Nat.lt_of_lt_of_le hi hn) hj⟩, by rw [Nat.zero_add, cell?_cells hh]; exact hc i j x d h1 h2⟩
  | three f G hh hz hn hcm hb hx hc hr hg hd =>
    refine .sl _ f rfl hb (Nat.le_trans hn hcm) hn hx (fun i j x d h1 h2 => ?_) fun i j x d h1 h2 => (hr i j x d h1 h2).repD fun b o hG => hf _ _ (.inr ⟨i, j, x, d, h1, h2, hG⟩)
    have ⟨hi, hj⟩ := len_of hx h1 h2
    exact ⟨by simpa using hf _ _ (.inl ⟨rfl, idx_lt (Nat.lt_of_lt_of_le hi hn) hj⟩), by rw [Nat.zero_add, cell?_cells hh]; exact hc i j x d h1 h2⟩

theorem TokRep.repD_one {w : World} {K : CS} {t : Tok} {v : Value} {F : CS} (h : TokRep w K t v F) (hl : t.L = 1) : RepD w K (.sl t.B t.xs) v := by
  cases h with
  | nil => exact .nil
  | one f hh hz hn hcm hb hx hc hk' hr =>
    exact .sl _ f rfl hb (Nat.le_trans hn hcm) hn hx (fun i j x d h1 h2 => ⟨by simpa using hk' i j x d h1 h2, by rw [Nat.zero_add, cell?_cells hh]; exact hc i j x d h1 h2⟩) hr
  | two => cases hl
  | three => cases hl

/-- What level 1 owns. -/
def spare (v : Value) (n e : Nat) : CS :=
  match v with
  | .slice (some a) _ cap => fun b o => b = a.block ∧ n * e ≤ o ∧ o < cap * e
  | _ => fun _ _ => False

theorem TokRep.level1 {w : World} {K K' : CS} {t : Tok} {v : Value} {F : CS} (h : TokRep w K t v F) (hk : ∀ b o, K b o → K' b o) (hf : ∀ b o, F b o → ¬ spare v t.xs.length t.e b o → K' b o) :
    TokRep w K' { t with L := 1 } v (spare v t.xs.length t.e) ∧ ∀ b o, spare v t.xs.length t.e b o → F b o := by
  cases h with
  | nil => exact ⟨.nil, fun _ _ h => h.elim⟩
  | one f hh hz hn hcm hb hx hc hk' hr =>
    exact ⟨.one f hh hz hn hcm hb hx hc (fun i j x d h1 h2 => hk _ _ (hk' i j x d h1 h2)) fun i j x d h1 h2 => (hr i j x d h1 h2).mono hk, fun b o h => h⟩
  | two f hh hz hn hcm hb hx hc hr =>
    refine ⟨.one f hh hz hn hcm hb hx hc (fun i j x d h1 h2 => ?_) fun i j x d h1 h2 => (hr i j x d h1 h2).mono hk, fun b o h => ⟨h.1, h.2.2⟩⟩
    have ⟨hi, hj⟩ := len_of hx h1 h2
    have hlt := idx_lt hi hj
    exact hf _ _ ⟨rfl, idx_lt (Nat.lt_of_lt_of_le hi hn) hj⟩ fun hs => absurd (Nat.lt_of_lt_of_le hlt hs.2.1) (Nat.lt_irrefl _)
  | three f G hh hz hn hcm hb hx hc hr hg hd =>
    refine ⟨.one f hh hz hn hcm hb hx hc (fun i j x d h1 h2 => ?_) fun i j x d h1 h2 => (hr i j x d h1 h2).repD fun b o hG => hf _ _ (.inr ⟨i, j, x, d, h1, h2, hG⟩) ?_, fun b o h => .inl ⟨h.1, h.2.2⟩⟩
    · have ⟨hi, hj⟩ := len_of hx h1 h2
      have hlt := idx_lt hi hj
      exact hf _ _ (.inl ⟨rfl, idx_lt (Nat.lt_of_lt_of_le hi hn) hj⟩) fun hs => absurd (Nat.lt_of_lt_of_le hlt hs.2.1) (Nat.lt_irrefl _)
    · intro hs
      have hbg : b = _ := hs.1
      subst hbg
      exact hg i j x d h1 h2 _ hG

section
variable {en : En} {st : St} {Fr : Nat → Prop} {a : Act} {w w' w0 : World} {W X : CS} {K0 : Kb}

theorem put_getD (a : Act) (d s : Nat) (v : Value) (hd : d < a.tmps.size) : (a.put (some d) v).tmps.getD s undef = if s = d then v else a.tmps.getD s undef := by
  simp only [Act.put, Array.getD_eq_getD_getElem?, Array.getElem?_setIfInBounds]
  by_cases h : s = d
  · subst h; simp [hd]
  · simp [h, Ne.symm h]

theorem RelE.fewer (r : RelE en st Fr a w w0 W K0) {Fr' : Nat → Prop} (h : ∀ i, Fr' i → Fr i) : RelE en st Fr' a w w0 W K0 :=
  { r with free := ⟨fun i hi => r.free.slot i (h i hi), fun i hi => r.free.box i (h i hi), fun i hi => r.free.tok i (h i hi), fun i hi => r.free.cell i (h i hi)⟩, fb := fun b hb => ⟨(r.fb b hb).1, fun hf => (r.fb b hb).2 (h b hf)⟩ }

/-- A slot is written. -/
theorem RelE.setSlot (r : RelE en st Fr a w w0 W K0) {d : Nat} (hd : d < st.n) {s : Slot} {v : Value} (hs : SlotRep w en st.tok s v) (hm : ∀ i, Fr i → ¬ s.men i) :
    RelE en (st.app (.slot d s)) Fr (a.put (some d) v) w w0 W K0 :=
  { r with
    free := { r.free with
      slot := fun i hi s' => by
        show ¬ Slot.men i (upd st.slot d s s')
        rw [upd_eq]; split
        · exact hm i hi
        · exact r.free.slot i hi s' }
    size := by show (a.tmps.setIfInBounds d v).size = st.n; rw [Array.size_setIfInBounds]; exact r.size
    defers := r.defers
    slots := fun s' => by
      show SlotRep w en st.tok (upd st.slot d s s') _
      rw [put_getD _ _ _ _ (by rw [r.size]; exact hd), upd_eq]
      split
      · exact hs
      · exact r.slots s' }

theorem RelE.put_none (r : RelE en st Fr a w w0 W K0) {v : Value} : RelE en st Fr (a.put none v) w w0 W K0 := r

/-- A token is given up. -/
theorem RelE.dropTok (r : RelE en st Fr a w w0 W K0) (t : Nat) : RelE en (st.app (.tok t none)) Fr a w w0 W K0 :=
  have hn : ∀ t' tk, upd st.tok t none t' = some tk → t' ≠ t ∧ st.tok t' = some tk := fun t' tk h => by
    rw [upd_eq] at h; split at h
    · cases h
    · exact ⟨by assumption, h⟩
  { r with
    free := { r.free with tok := fun i hi => (upd_eq st.tok t none i).trans (by split <;> first | rfl | exact r.free.tok i hi) }
    slots := fun s => (r.slots s).env (fun _ _ h => h) (fun _ _ => rfl) (fun _ _ => rfl) fun i tk' _ h => ⟨tk', (hn i tk' h).2, rfl, Nat.le_refl _⟩
    toks := fun t' tk h => r.toks t' tk (hn t' tk h).2
    bt := fun b t' cs tk h1 h2 => r.bt b t' cs tk h1 (hn t' tk h2).2
    tt := fun t1 t2 tk1 tk2 h1 h2 => r.tt t1 t2 tk1 tk2 (hn _ _ h1).2 (hn _ _ h2).2
    kt := fun t' tk h => r.kt t' tk (hn t' tk h).2
    ta := fun t' tk h => r.ta t' tk (hn t' tk h).2 }

/-- Cells that nobody owns are read from now on. -/
theorem RelE.growK (r : RelE en st Fr a w w0 W K0) {K' : CS} (hb : ∀ b cs, st.box b = some cs → ∀ o, ¬ K' (en.FB b) o) (ht : ∀ t tk, st.tok t = some tk → ∀ b o, en.FT t b o → ¬ K' b o)
    (ha : ∀ b o, K' b o → Al w0 W b o) (hl : ∀ b o, K' b o → b < w.heap.size) : RelE { en with K := fun b o => en.K b o ∨ K' b o } st Fr a w w0 W K0 :=
  { r with
    slots := fun s => (r.slots s).env (fun _ _ h => .inl h) (fun _ _ => rfl) (fun _ _ => rfl) fun i tk' _ h => ⟨tk', h, rfl, Nat.le_refl _⟩
    boxes := fun b cs h => (r.boxes b cs h).env (fun _ _ h => .inl h) fun _ _ => rfl
    toks := fun t tk h => (r.toks t tk h).mono fun _ _ h => .inl h
    kb := fun b cs h o hk => hk.elim (r.kb b cs h o) (hb b cs h o)
    kt := fun t tk h b o hf hk => hk.elim (r.kt t tk h b o hf) (ht t tk h b o hf)
    ks := fun b o hk => hk.elim (r.ks b o) fun h => .inr (ha b o h)
    kl := fun b o hk => hk.elim (r.kl b o) (hl b o) }

/-- A token's slice is read from now on, and owned no more. -/
theorem RelE.freeze (r : RelE en st Fr a w w0 W K0) {t : Nat} {tk : Tok} (ht : st.tok t = some tk) :
    RelE { en with K := fun b o => en.K b o ∨ en.FT t b o } (st.app (.tok t none)) Fr a w w0 W K0 ∧ RepD w (fun b o => en.K b o ∨ en.FT t b o) (.sl tk.B tk.xs) (en.VT t) := by
  refine ⟨(r.dropTok t).growK (fun b cs h o hf => r.bt b t cs tk h ht o hf) (fun t' tk' h b o hf hk => ?_) (fun b o h => r.ta t tk ht b o h) (fun b o h => (r.toks t tk ht).lt b o h), (r.toks t tk ht).repD (fun _ _ h => .inl h) (fun _ _ h => .inr h)⟩
  have h' : upd st.tok t none t' = some tk' := h
  rw [upd_eq] at h'
  split at h'
  · cases h'
  · exact r.tt t' t tk' tk h' ht (by assumption) b o hf hk

/-- A token goes down to level 1. -/
theorem RelE.lower (r : RelE en st Fr a w w0 W K0) {t : Nat} {tk : Tok} (ht : st.tok t = some tk) :
    ∃ en', RelE en' (st.app (.tok t (some { tk with L := 1 }))) Fr a w w0 W K0 ∧ (∀ b o, en.K b o → en'.K b o) ∧ en'.FB = en.FB ∧ en'.VT = en.VT ∧ RepD w en'.K (.sl tk.B tk.xs) (en.VT t) := by
  let S := spare (en.VT t) tk.xs.length tk.e
  let K' : CS := fun b o => en.K b o ∨ (en.FT t b o ∧ ¬ S b o)
  let en' : En := { en with K := K', FT := upd en.FT t S }
  obtain ⟨hT, hS⟩ := (r.toks t tk ht).level1 (K' := K') (fun _ _ h => .inl h) (fun b o h1 h2 => .inr ⟨h1, h2⟩)
  have hn : ∀ t' tk', upd st.tok t (some { tk with L := 1 }) t' = some tk' → (t' = t ∧ tk' = { tk with L := 1 }) ∨ (t' ≠ t ∧ st.tok t' = some tk') := fun t' tk' h => by
    rw [upd_eq] at h; split at h
    · exact .inl ⟨by assumption, (Option.some.inj h).symm⟩
    · exact .inr ⟨by assumption, h⟩
  have hF : ∀ t', (∀ b o, upd en.FT t S t' b o → en.FT t' b o) := fun t' b o h => by
    rw [upd_eq] at h; split at h
    · rename_i e; subst e; exact hS b o h
    · exact h
  have hlive : ∀ t' tk', upd st.tok t (some { tk with L := 1 }) t' = some tk' → ∃ tk0, st.tok t' = some tk0 := fun t' tk' h => by
    rcases hn t' tk' h with ⟨rfl, _⟩ | ⟨_, h⟩
    · exact ⟨tk, ht⟩
    · exact ⟨tk', h⟩
  refine ⟨en', { r with
    free := { r.free with tok := fun i hi => ?_ }
    slots := fun s => (r.slots s).env (fun _ _ h => .inl h) (fun _ _ => rfl) (fun _ _ => rfl) fun i tk' _ h => ?_
    boxes := fun b cs h => (r.boxes b cs h).env (fun _ _ h => .inl h) fun _ _ => rfl
    toks := fun t' tk' h => ?_
    bt := fun b t' cs tk' h1 h2 o h3 => ?_
    tt := fun t1 t2 k1 k2 h1 h2 hne b o h3 h4 => ?_
    kb := fun b cs h o hk => hk.elim (r.kb b cs h o) fun h' => r.bt b t cs tk h ht o h'.1
    kt := fun t' tk' h b o h1 h2 => ?_
    ks := fun b o hk => hk.elim (r.ks b o) fun h' => .inr (r.ta t tk ht b o h'.1)
    kl := fun b o hk => hk.elim (r.kl b o) fun h' => (r.toks t tk ht).lt b o h'.1
    ta := fun t' tk' h b o h1 => ?_ }, fun _ _ h => .inl h, rfl, rfl, ?_⟩
  · show upd st.tok t _ i = none
    rw [upd_ne _ _ _ (fun e => by rw [← e, r.free.tok i hi] at ht; cases ht)]
    exact r.free.tok i hi
  · rcases hn i tk' h with ⟨rfl, rfl⟩ | ⟨_, h⟩
    · exact ⟨tk, ht, rfl, Nat.le_refl _⟩
    · exact ⟨tk', h, rfl, Nat.le_refl _⟩
  · rcases hn t' tk' h with ⟨rfl, rfl⟩ | ⟨hne, h⟩
    · show TokRep w K' _ (en.VT t') (upd en.FT t' S t')
      rw [upd_self]; exact hT
    · show TokRep w K' _ (en.VT t') (upd en.FT t S t')
      rw [upd_ne _ _ _ hne]; exact (r.toks t' tk' h).mono fun _ _ h => .inl h
  · obtain ⟨k0, h0⟩ := hlive t' tk' h2
    exact r.bt b t' cs k0 h1 h0 o (hF t' _ _ h3)
  · obtain ⟨k3, h5⟩ := hlive t1 k1 h1
    obtain ⟨k4, h6⟩ := hlive t2 k2 h2
    exact r.tt t1 t2 k3 k4 h5 h6 hne b o (hF t1 _ _ h3) (hF t2 _ _ h4)
  · obtain ⟨k3, h5⟩ := hlive t' tk' h
    rcases h2 with h2 | ⟨h2, h2'⟩
    · exact r.kt t' k3 h5 b o (hF t' _ _ h1) h2
    · by_cases e : t' = t
      · subst e
        have h1' : upd en.FT t' S t' b o := h1
        rw [upd_self] at h1'
        exact h2' h1'
      · exact r.tt t' t k3 tk h5 ht e b o (hF t' _ _ h1) h2
  · obtain ⟨k3, h5⟩ := hlive t' tk' h
    exact r.ta t' k3 h5 b o (hF t' _ _ h1)
  · exact hT.repD_one rfl

end
end Go.Gl
