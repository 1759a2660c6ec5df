/- The logic's first laws: what is told stays told while other memory changes. -/
import Derived.Test.YtfkeggikdeenbaaL1
set_option linter.unusedVariables false
set_option linter.unusedSimpArgs false
namespace Go.Gl
open Go.RowKit

theorem RepD.mono {w : World} {K K' : CS} {d : D} {v : Value} (h : RepD w K d v) (hk : ∀ b o, K b o → K' b o) : RepD w K' d v := by
  induction h with
  | int h => exact .int h
  | bool => exact .bool
  | str h => exact .str h
  | nil => exact .nil
  | sl e f hs hb hm hn hx hc hr ih =>
    exact .sl e f hs hb hm hn hx (fun i j x d h1 h2 => ⟨hk _ _ (hc i j x d h1 h2).1, (hc i j x d h1 h2).2⟩) ih

theorem RepD.world {w w' : World} {K : CS} {d : D} {v : Value} (h : RepD w K d v)
    (hw : ∀ b o v, K b o → w.cell? ⟨b, o, none⟩ = some v → w'.cell? ⟨b, o, none⟩ = some v) : RepD w' K d v := by
  induction h with
  | int h => exact .int h
  | bool => exact .bool
  | str h => exact .str h
  | nil => exact .nil
  | sl e f hs hb hm hn hx hc hr ih =>
    exact .sl e f hs hb hm hn hx (fun i j x d h1 h2 => ⟨(hc i j x d h1 h2).1, hw _ _ _ (hc i j x d h1 h2).1 (hc i j x d h1 h2).2⟩) ih

theorem RepD.oneCell {w : World} {K : CS} {d : D} {v : Value} (h : RepD w K d v) : v.oneCell' = true := by
  cases h <;> rfl

theorem DeepD.oneCell {w : World} {d : D} {v : Value} {F : CS} (h : DeepD w d v F) : v.oneCell' = true := by
  cases h <;> rfl

theorem TokRep.oneCell {w : World} {K : CS} {t : Tok} {v : Value} {F : CS} (h : TokRep w K t v F) : v.oneCell' = true := by
  cases h <;> rfl

theorem CellRep.oneCell {w : World} {en : En} {c : Cell} {v : Value} (h : CellRep w en c v) : v.oneCell' = true := by
  cases h with
  | any h => exact h
  | c h => exact h.oneCell
  | nil => rfl
  | tk h => exact h

theorem ObjU.refl (S : Nat → Prop) (o : Obj) : ObjU S o o := .inl rfl

theorem ObjU.mono {S S' : Nat → Prop} {o o' : Obj} (h : ObjU S o o') (hs : ∀ j, S j → S' j) : ObjU S' o o' := by
  rcases h with h | ⟨arr, arr', T, fr, h1, h2, h3, h4⟩
  · exact .inl h
  · exact .inr ⟨arr, arr', T, fr, h1, h2, h3, fun j hj => h4 j (fun h => hj (hs j h))⟩

theorem ObjU.trans {S : Nat → Prop} {o o' o'' : Obj} (h : ObjU S o o') (h' : ObjU S o' o'') : ObjU S o o'' := by
  rcases h with rfl | ⟨arr, arr', T, fr, h1, h2, h3, h4⟩
  · exact h'
  · rcases h' with rfl | ⟨brr, brr', T', fr', g1, g2, g3, g4⟩
    · exact .inr ⟨arr, arr', T, fr, h1, h2, h3, h4⟩
    · rw [h2] at g1
      injection g1 with e1 e2 e3
      subst e1 e2 e3
      exact .inr ⟨arr, brr', T, fr, h1, g2, g3.trans h3, fun j hj => (g4 j hj).trans (h4 j hj)⟩

theorem Unch.refl (w : World) (X : CS) : Unch w w X := ⟨rfl, rfl, rfl, Nat.le_refl _, fun k o h => ⟨o, h, .refl _ _⟩⟩

theorem Unch.mono {w w' : World} {X Y : CS} (h : Unch w w' X) (hs : ∀ b o, b < w.heap.size → X b o → Y b o) : Unch w w' Y :=
  ⟨h.os, h.tape, h.output, h.size, fun k o hk => by
    obtain ⟨o', h1, h2⟩ := h.blk k o hk
    exact ⟨o', h1, h2.mono (fun j hj => hs k j (Array.getElem?_eq_some_iff.1 hk).1 hj)⟩⟩

theorem Unch.trans {w w1 w2 : World} {X : CS} (h : Unch w w1 X) (h' : Unch w1 w2 X) : Unch w w2 X :=
  ⟨h'.os.trans h.os, h'.tape.trans h.tape, h'.output.trans h.output, Nat.le_trans h.size h'.size, fun k o hk => by
    obtain ⟨o1, h1, h2⟩ := h.blk k o hk
    obtain ⟨o2, h3, h4⟩ := h'.blk k o1 h1
    exact ⟨o2, h3, h2.trans h4⟩⟩

theorem Unch.trans2 {w w1 w2 : World} {X Y : CS} (h : Unch w w1 X) (h' : Unch w1 w2 Y) (hs : ∀ b o, b < w.heap.size → Y b o → X b o) : Unch w w2 X :=
  ⟨h'.os.trans h.os, h'.tape.trans h.tape, h'.output.trans h.output, Nat.le_trans h.size h'.size, fun k o hk => by
    obtain ⟨o1, h1, h2⟩ := h.blk k o hk
    obtain ⟨o2, h3, h4⟩ := h'.blk k o1 h1
    exact ⟨o2, h3, h2.trans (h4.mono fun j hj => hs k j (Array.getElem?_eq_some_iff.1 hk).1 hj)⟩⟩

theorem Unch.alloc (w : World) (o : Obj) (X : CS) : Unch w (w.alloc o) X :=
  ⟨rfl, rfl, rfl, by simp, fun k o' hk => ⟨o', by rw [Below.heap_alloc _ _ _ (Array.getElem?_eq_some_iff.1 hk).1]; exact hk, .refl _ _⟩⟩

theorem Unch.drew (w : World) (X : CS) : Unch w w.drew X := ⟨rfl, rfl, rfl, Nat.le_refl _, fun k o h => ⟨o, h, .refl _ _⟩⟩

theorem Unch.of_below {w w' : World} (h : Below w.heap.size w w') (X : CS) : Unch w w' X :=
  ⟨h.os, h.tape, h.output, h.size, fun k o hk => ⟨o, by rw [h.block k (Array.getElem?_eq_some_iff.1 hk).1]; exact hk, .refl _ _⟩⟩

theorem cell?_cells {w : World} {g o : Nat} {arr : Array Value} {T : TypeId} {fr : Nat × Nat} (h : w.heap[g]? = some (.cells arr T fr)) : w.cell? ⟨g, o, none⟩ = arr[o]? := by
  simp [World.cell?, h]

theorem cell?_some {w : World} {g o : Nat} {v : Value} (h : w.cell? ⟨g, o, none⟩ = some v) : ∃ arr T fr, w.heap[g]? = some (.cells arr T fr) ∧ arr[o]? = some v := by
  unfold World.cell? at h
  split at h
  · rename_i c T fr heq
    exact ⟨c, T, fr, heq, by simpa using h⟩
  · cases h

theorem Unch.cell {w w' : World} {X : CS} (h : Unch w w' X) {b o : Nat} {v : Value} (hx : ¬ X b o) (hc : w.cell? ⟨b, o, none⟩ = some v) : w'.cell? ⟨b, o, none⟩ = some v := by
  obtain ⟨arr, T, fr, h1, h2⟩ := cell?_some hc
  obtain ⟨o', h3, h4⟩ := h.blk b _ h1
  rcases h4 with rfl | ⟨a1, a2, T', fr', e1, e2, e3, e4⟩
  · rw [cell?_cells h3]; exact h2
  · injection e1 with e1 e1' e1''
    subst e1 e1' e1''
    rw [e2] at h3
    rw [cell?_cells h3, e4 o hx]; exact h2

theorem Unch.cells {w w' : World} {X : CS} (h : Unch w w' X) {g : Nat} {arr : Array Value} {T : TypeId} {fr : Nat × Nat} (hh : w.heap[g]? = some (.cells arr T fr)) (hx : ∀ o, o < arr.size → ¬ X g o) : w'.heap[g]? = some (.cells arr T fr) := by
  obtain ⟨o', h3, h4⟩ := h.blk g _ hh
  rcases h4 with rfl | ⟨a1, a2, T', fr', e1, e2, e3, e4⟩
  · exact h3
  · injection e1 with e1 e1' e1''
    subst e1 e1' e1''
    rw [h3, e2]
    have : a2 = arr := by
      apply Array.ext e3
      intro i h1 h2
      have := e4 i (hx i h2)
      simpa [h1, h2] using this
    rw [this]

theorem Unch.repD {w w' : World} {X K : CS} (h : Unch w w' X) (hx : ∀ b o, K b o → ¬ X b o) {d : D} {v : Value} (hr : RepD w K d v) : RepD w' K d v :=
  hr.world fun b o v hk hc => h.cell (hx b o hk) hc

theorem Unch.deepD {w w' : World} {X : CS} (h : Unch w w' X) {d : D} {v : Value} {F : CS} (hr : DeepD w d v F) (hx : ∀ b o, F b o → ¬ X b o) : DeepD w' d v F := by
  induction hr with
  | int h => exact .int h
  | bool => exact .bool
  | str h => exact .str h
  | nil => exact .nil
  | sl e f G hh hz hn hcm hb hx' hc hr hg hd ih =>
    refine .sl e f G (h.cells hh fun o ho => hx _ _ (.inl ⟨rfl, by omega⟩)) hz hn hcm hb hx' hc (fun i j x d h1 h2 => ih i j x d h1 h2 fun b o hG => hx _ _ (.inr ⟨i, j, x, d, h1, h2, hG⟩)) hg hd

theorem row_lt {e n k : Nat} (h : k < n * e) : ∃ i j, i < n ∧ j < e ∧ k = i * e + j := by
  have he : 0 < e := by
    rcases Nat.eq_zero_or_pos e with rfl | h0
    · simp at h
    · exact h0
  refine ⟨k / e, k % e, ?_, Nat.mod_lt _ he, ?_⟩
  · exact (Nat.div_lt_iff_lt_mul he).2 h
  · rw [Nat.mul_comm]; exact (Nat.div_add_mod k e).symm

theorem Unch.tokRep {w w' : World} {X K : CS} (h : Unch w w' X) (hk : ∀ b o, K b o → ¬ X b o) {t : Tok} {v : Value} {F : CS} (hr : TokRep w K t v F) (hx : ∀ b o, F b o → ¬ X b o) : TokRep w' K t v F := by
  cases hr with
  | nil => exact .nil
  | one f hh hz hn hcm hb hx' hc hk' hr =>
    rename_i T e B xs g cap arr
    refine .one f (h.cells hh fun o ho => ?_) hz hn hcm hb hx' hc hk' fun i j x d h1 h2 => h.repD hk (hr i j x d h1 h2)
    by_cases hlt : o < xs.length * e
    · obtain ⟨i, j, hi, hj, rfl⟩ := row_lt hlt
      have h1 : xs[i]? = some xs[i] := List.getElem?_eq_getElem hi
      have h2 := hx' i _ h1
      exact hk _ _ (hk' i j xs[i] (xs[i][j]'(by omega)) h1 (List.getElem?_eq_getElem (by omega)))
    · exact hx _ _ ⟨rfl, by omega, by omega⟩
  | two f hh hz hn hcm hb hx' hc hr =>
    exact .two f (h.cells hh fun o ho => hx _ _ ⟨rfl, by omega⟩) hz hn hcm hb hx' hc fun i j x d h1 h2 => h.repD hk (hr i j x d h1 h2)
  | three f G hh hz hn hcm hb hx' hc hr hg hd =>
    exact .three f G (h.cells hh fun o ho => hx _ _ (.inl ⟨rfl, by omega⟩)) hz hn hcm hb hx' hc (fun i j x d h1 h2 => h.deepD (hr i j x d h1 h2) fun b o hG => hx _ _ (.inr ⟨i, j, x, d, h1, h2, hG⟩)) hg hd

theorem Unch.cellRep {w w' : World} {X : CS} {en : En} (h : Unch w w' X) (hk : ∀ b o, en.K b o → ¬ X b o) {c : Cell} {v : Value} (hr : CellRep w en c v) : CellRep w' en c v := by
  cases hr with
  | any h => exact .any h
  | c h' => exact .c (h.repD hk h')
  | nil => exact .nil
  | tk h => exact .tk h

theorem Unch.cellsRep {w w' : World} {X : CS} {en : En} (h : Unch w w' X) (hk : ∀ b o, en.K b o → ¬ X b o) {cs : List Cell} {arr : Array Value} (hr : CellsRep w en cs arr) : CellsRep w' en cs arr :=
  ⟨hr.1, fun j c hj => let ⟨u, h1, h2⟩ := hr.2 j c hj; ⟨u, h1, h.cellRep hk h2⟩⟩

theorem Unch.valRep {w w' : World} {X : CS} {en : En} (h : Unch w w' X) (hk : ∀ b o, en.K b o → ¬ X b o) {b : Bool} {cs : List Cell} {v : Value} (hr : ValRep w en b cs v) : ValRep w' en b cs v := by
  cases hr with
  | one h' => exact .one (h.cellRep hk h')
  | agg h' => exact .agg (h.cellsRep hk h')

theorem Unch.slotRep {w w' : World} {X : CS} {en : En} {tok : Nat → Option Tok} (h : Unch w w' X) (hk : ∀ b o, en.K b o → ¬ X b o) {s : Slot} {v : Value} (hr : SlotRep w en tok s v) : SlotRep w' en tok s v := by
  cases hr with
  | any => exact .any
  | v h' => exact .v (h.valRep hk h')
  | tup hz h' => exact .tup hz fun j x hj => let ⟨u, h1, h2⟩ := h' j x hj; ⟨u, h1, h.valRep hk h2⟩
  | lp => exact .lp
  | cp h' hi hs => exact .cp (h.repD hk h') hi hs
  | ep h' => exact .ep h'
  | fn => exact .fn
  | un h' => exact .un h'

theorem Unch.boxRep {w w' : World} {X : CS} {en : En} (h : Unch w w' X) (hk : ∀ b o, en.K b o → ¬ X b o) {g : Nat} (hx : ∀ o, ¬ X g o) {cs : List Cell} (hr : BoxRep w en g cs) : BoxRep w' en g cs := by
  obtain ⟨arr, T, h1, h2⟩ := hr
  exact ⟨arr, T, h.cells h1 (fun o _ => hx o), h.cellsRep hk h2⟩

section
variable {en : En} {st : St} {Fr : Nat → Prop} {a : Act} {w w' w0 : World} {W X : CS} {K0 : Kb}

/-- Other memory changes. -/
theorem RelE.world (r : RelE en st Fr a w w0 W K0) (h : Unch w w' X) (hk : ∀ b o, en.K b o → ¬ X b o) (hb : ∀ b cs, st.box b = some cs → ∀ o, ¬ X (en.FB b) o)
    (ht : ∀ t tk, st.tok t = some tk → ∀ b o, en.FT t b o → ¬ X b o) (ha : ∀ b o, X b o → Al w0 W b o) : RelE en st Fr a w' w0 W K0 where
  free := r.free
  size := r.size
  defers := r.defers
  slots s := h.slotRep hk (r.slots s)
  boxes b cs hbx := h.boxRep hk (hb b cs hbx) (r.boxes b cs hbx)
  toks t tk htk := h.tokRep hk (r.toks t tk htk) (ht t tk htk)
  bb := r.bb
  bt := r.bt
  tt := r.tt
  kb := r.kb
  kt := r.kt
  ks := r.ks
  kl b o hko := Nat.lt_of_lt_of_le (r.kl b o hko) h.size
  ba := r.ba
  ta := r.ta
  un := r.un.trans2 h fun b o hlt hxo => (ha b o hxo).resolve_left (by omega)
  fb := r.fb

end
end Go.Gl
