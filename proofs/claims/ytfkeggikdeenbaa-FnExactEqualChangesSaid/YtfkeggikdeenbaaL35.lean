/- A state at a loop's head. -/
import Derived.Test.YtfkeggikdeenbaaL34
set_option linter.unusedVariables false
set_option linter.unusedSimpArgs false
namespace Go.Gl
open Go.RowKit

/-- A cell under its names at the head. -/
inductive RenC (ren : List (Nat × Nat)) (nils : List Nat) : Cell → Cell → Prop
  | any : RenC ren nils .any .any
  | c {d : D} : RenC ren nils (.c d) (.c d)
  | nil : RenC ren nils .nil .nil
  | new {k : Nat} (h : k ∈ nils) : RenC ren nils .nil (.tk k)
  | tk {t t' : Nat} (h : (t, t') ∈ ren) : RenC ren nils (.tk t) (.tk t')
  | gone {t : Nat} : RenC ren nils (.tk t) .any

inductive RenL (ren : List (Nat × Nat)) (nils : List Nat) : List Cell → List Cell → Prop
  | nil : RenL ren nils [] []
  | cons {c c' : Cell} {cs cs' : List Cell} (h : RenC ren nils c c') (t : RenL ren nils cs cs') : RenL ren nils (c :: cs) (c' :: cs')

inductive RenS (ren : List (Nat × Nat)) (nils : List Nat) (bx : Nat → Prop) : Slot → Slot → Prop
  | v {b : Bool} {cs cs' : List Cell} (h : RenL ren nils cs cs') : RenS ren nils bx (.v b cs) (.v b cs')
  | lp {b off : Nat} (h : bx b) : RenS ren nils bx (.lp b off) (.lp b off)
  | fn {f : Nat} {caps : List Nat} (h : ∀ b ∈ caps, bx b) : RenS ren nils bx (.fn f caps) (.fn f caps)
  | cp {xs : List (List D)} {i off : Nat} : RenS ren nils bx (.cp xs i off) (.cp xs i off)

theorem RenC.mono {ren ren' : List (Nat × Nat)} {nils nils' : List Nat} {c c' : Cell} (h : RenC ren nils c c') (h1 : ∀ x ∈ ren, x ∈ ren') (h2 : ∀ x ∈ nils, x ∈ nils') : RenC ren' nils' c c' := by
  cases h with
  | any => exact .any
  | c => exact .c
  | nil => exact .nil
  | new h => exact .new (h2 _ h)
  | tk h => exact .tk (h1 _ h)
  | gone => exact .gone

theorem RenL.mono {ren ren' : List (Nat × Nat)} {nils nils' : List Nat} {c c' : List Cell} (h : RenL ren nils c c') (h1 : ∀ x ∈ ren, x ∈ ren') (h2 : ∀ x ∈ nils, x ∈ nils') : RenL ren' nils' c c' := by
  induction h with
  | nil => exact .nil
  | cons h t ih => exact .cons (h.mono h1 h2) ih

theorem RenS.mono {ren ren' : List (Nat × Nat)} {nils nils' : List Nat} {bx bx' : Nat → Prop} {c c' : Slot} (h : RenS ren nils bx c c') (h1 : ∀ x ∈ ren, x ∈ ren') (h2 : ∀ x ∈ nils, x ∈ nils') (h3 : ∀ b, bx b → bx' b) : RenS ren' nils' bx' c c' := by
  cases h with
  | v h => exact .v (h.mono h1 h2)
  | lp h => exact .lp (h3 _ h)
  | fn h => exact .fn fun b hb => h3 b (h b hb)
  | cp => exact .cp

theorem alook_mem {α : Type} : ∀ {l : List (Nat × α)} {k : Nat} {v : α}, alook l k = some v → (k, v) ∈ l
  | [], _, _, h => by cases h
  | (k', v') :: l, k, v, h => by
    unfold alook at h
    cases hk : Nat.beq k k' with
    | true =>
      rw [hk] at h
      obtain rfl := Option.some.inj h
      rw [Nat.eq_of_beq_eq_true hk]
      exact List.mem_cons_self
    | false => rw [hk] at h; exact List.mem_cons_of_mem _ (alook_mem h)

theorem alook_cons {α : Type} (l : List (Nat × α)) (k : Nat) (v : α) : alook ((k, v) :: l) = upd (alook l) k (some v) := rfl

/-- What is true while a head's state is put together. -/
structure NInv (L hb : Nat) (st : St) (s : Norm) (nils : List Nat) : Prop where
  lo : hb ≤ s.nt
  ren : ∀ t t', (t, t') ∈ s.ren → hb ≤ t' ∧ t' < s.nt ∧ t' ∉ nils ∧ ∃ q, st.tok t = some q ∧ L ≤ q.L ∧ alook s.toks t' = some { q with L := L }
  fn : ∀ t t1 t2, (t, t1) ∈ s.ren → (t, t2) ∈ s.ren → t1 = t2
  inj : ∀ t1 t2 t', (t1, t') ∈ s.ren → (t2, t') ∈ s.ren → t1 = t2
  nil : ∀ k ∈ nils, hb ≤ k ∧ k < s.nt ∧ ∃ T e B, alook s.toks k = some ⟨L, T, e, B, []⟩
  tok : ∀ k q, alook s.toks k = some q → k ∈ nils ∨ ∃ t, (t, k) ∈ s.ren
  box : ∀ b cs', alook s.boxes b = some cs' → b < hb ∧ ∃ cs, st.box b = some cs ∧ RenL s.ren nils cs cs'
  slot : ∀ i sl, alook s.slots i = some sl → RenS s.ren nils (fun b => b < hb ∧ ∃ cs', alook s.boxes b = some cs') (st.slot i) sl

theorem alook_none {α : Type} : ∀ {l : List (Nat × α)} {k : Nat}, (∀ v, (k, v) ∉ l) → alook l k = none
  | [], _, _ => rfl
  | (k', v') :: l, k, h => by
    unfold alook
    cases hk : Nat.beq k k' with
    | true => exact absurd (by rw [Nat.eq_of_beq_eq_true hk]; exact List.mem_cons_self) (h v')
    | false => exact alook_none fun v hv => h v (List.mem_cons_of_mem _ hv)

theorem alook_isNone {l : List (Nat × Nat)} {t : Nat} (h : alook l t = none) : ∀ t', (t, t') ∉ l := by
  induction l with
  | nil => exact fun _ h => by cases h
  | cons x l ih =>
    obtain ⟨k, v⟩ := x
    unfold alook at h
    cases hk : Nat.beq t k with
    | true => rw [hk] at h; cases h
    | false =>
      rw [hk] at h
      intro t' hm
      rcases List.mem_cons.1 hm with hm | hm
      · injection hm with e1 e2
        rw [e1, Nat.beq_refl] at hk; cases hk
      · exact ih h t' hm

theorem normCell_inv {L hb : Nat} {st : St} {ty : Option (Nat × Nat × Nat)} {s s' : Norm} {nils : List Nat} {c c' : Cell} (h : normCell L st.tok ty s c = some (c', s')) (hi : NInv L hb st s nils) :
    ∃ nils', NInv L hb st s' nils' ∧ RenC s'.ren nils' c c' ∧ (∀ x ∈ s.ren, x ∈ s'.ren) ∧ (∀ x ∈ nils, x ∈ nils') ∧ s'.slots = s.slots ∧ s'.boxes = s.boxes := by
  cases c with
  | any => obtain ⟨rfl, rfl⟩ : Cell.any = c' ∧ s = s' := by simpa [normCell] using h
           exact ⟨nils, hi, .any, fun _ h => h, fun _ h => h, rfl, rfl⟩
  | c d => obtain ⟨rfl, rfl⟩ : Cell.c d = c' ∧ s = s' := by simpa [normCell] using h
           exact ⟨nils, hi, .c, fun _ h => h, fun _ h => h, rfl, rfl⟩
  | nil =>
    cases ty with
    | none => obtain ⟨rfl, rfl⟩ : Cell.nil = c' ∧ s = s' := by simpa [normCell] using h
              exact ⟨nils, hi, .nil, fun _ h => h, fun _ h => h, rfl, rfl⟩
    | some x =>
      obtain ⟨T, e, B⟩ := x
      obtain ⟨rfl, rfl⟩ : Cell.tk s.nt = c' ∧ ({ s with nt := s.nt + 1, toks := (s.nt, ⟨L, T, e, B, []⟩) :: s.toks } : Norm) = s' := by simpa [normCell] using h
      have old : ∀ k, k < s.nt → alook ((s.nt, (⟨L, T, e, B, []⟩ : Tok)) :: s.toks) k = alook s.toks k := fun k hk => by rw [alook_cons]; exact upd_ne _ _ _ (by omega)
      refine ⟨s.nt :: nils, ⟨by have := hi.lo; show hb ≤ s.nt + 1; omega, fun t t' hm => ?_, hi.fn, hi.inj, fun k hk => ?_, fun k q hq => ?_, fun b cs' hb' => ?_, fun i sl hs => ?_⟩, .new List.mem_cons_self, fun _ h => h, fun _ h => List.mem_cons_of_mem _ h, rfl, rfl⟩
      · obtain ⟨h1, h2, h3, q, h4, h5, h6⟩ := hi.ren t t' hm
        refine ⟨h1, by show t' < s.nt + 1; omega, fun hk => ?_, q, h4, h5, (old t' h2).trans h6⟩
        rcases List.mem_cons.1 hk with e | hk
        · omega
        · exact h3 hk
      · rcases List.mem_cons.1 hk with rfl | hk
        · exact ⟨hi.lo, by show s.nt < s.nt + 1; omega, T, e, B, by rw [alook_cons]; exact upd_self _ _ _⟩
        · obtain ⟨h1, h2, T', e', B', h3⟩ := hi.nil k hk
          exact ⟨h1, by show k < s.nt + 1; omega, T', e', B', (old k h2).trans h3⟩
      · rw [alook_cons, upd_eq] at hq
        split at hq
        · rename_i e; rw [e]; exact .inl List.mem_cons_self
        · exact (hi.tok k q hq).imp (fun h => List.mem_cons_of_mem _ h) fun h => h
      · obtain ⟨h1, cs, h2, h3⟩ := hi.box b cs' hb'
        exact ⟨h1, cs, h2, h3.mono (fun _ h => h) fun _ h => List.mem_cons_of_mem _ h⟩
      · exact (hi.slot i sl hs).mono (fun _ h => h) (fun _ h => List.mem_cons_of_mem _ h) fun _ h => h
  | tk t =>
    simp only [normCell] at h
    cases hr : alook s.ren t with
    | some t' =>
      rw [hr] at h
      obtain ⟨rfl, rfl⟩ : Cell.tk t' = c' ∧ s = s' := by simpa using h
      exact ⟨nils, hi, .tk (alook_mem hr), fun _ h => h, fun _ h => h, rfl, rfl⟩
    | none =>
      rw [hr] at h
      simp only at h
      cases hq : st.tok t with
      | none =>
        rw [hq] at h
        obtain ⟨rfl, rfl⟩ : Cell.any = c' ∧ s = s' := by simpa using h
        exact ⟨nils, hi, .gone, fun _ h => h, fun _ h => h, rfl, rfl⟩
      | some q =>
        rw [hq] at h
        simp only at h
        obtain ⟨hL, h⟩ := bif_some h
        have hL := Nat.le_of_ble_eq_true hL
        obtain ⟨rfl, rfl⟩ : Cell.tk s.nt = c' ∧ ({ s with nt := s.nt + 1, ren := (t, s.nt) :: s.ren, toks := (s.nt, { q with L := L }) :: s.toks } : Norm) = s' := by simpa using h
        have hno := alook_isNone hr
        have old : ∀ k, k < s.nt → alook ((s.nt, ({ q with L := L } : Tok)) :: s.toks) k = alook s.toks k := fun k hk => by rw [alook_cons]; exact upd_ne _ _ _ (by omega)
        refine ⟨nils, ⟨by have := hi.lo; show hb ≤ s.nt + 1; omega, fun t1 t' hm => ?_, fun t1 x y hx hy => ?_, fun t1 t2 x hx hy => ?_, fun k hk => ?_, fun k q' hq' => ?_, fun b cs' hb' => ?_, fun i sl hs => ?_⟩, .tk List.mem_cons_self, fun _ h => List.mem_cons_of_mem _ h, fun _ h => h, rfl, rfl⟩
        · rcases List.mem_cons.1 hm with hm | hm
          · injection hm with e1 e2
            subst e1 e2
            exact ⟨hi.lo, by show s.nt < s.nt + 1; omega, fun hk => by have := (hi.nil _ hk).2.1; omega, q, hq, hL, by rw [alook_cons]; exact upd_self _ _ _⟩
          · obtain ⟨h1, h2, h3, q', h4, h5, h6⟩ := hi.ren t1 t' hm
            exact ⟨h1, by show t' < s.nt + 1; omega, h3, q', h4, h5, (old t' h2).trans h6⟩
        · rcases List.mem_cons.1 hx with hx | hx <;> rcases List.mem_cons.1 hy with hy | hy
          · injection hx with e1 e2; injection hy with e3 e4; rw [e2, e4]
          · injection hx with e1 e2; rw [e1] at hy; exact absurd hy (hno y)
          · injection hy with e1 e2; rw [e1] at hx; exact absurd hx (hno x)
          · exact hi.fn t1 x y hx hy
        · rcases List.mem_cons.1 hx with hx | hx <;> rcases List.mem_cons.1 hy with hy | hy
          · injection hx with e1 e2; injection hy with e3 e4; rw [e1, e3]
          · injection hx with e1 e2; have := (hi.ren t2 x hy).2.1; omega
          · injection hy with e1 e2; have := (hi.ren t1 x hx).2.1; omega
          · exact hi.inj t1 t2 x hx hy
        · obtain ⟨h1, h2, T', e', B', h3⟩ := hi.nil k hk
          exact ⟨h1, by show k < s.nt + 1; omega, T', e', B', (old k h2).trans h3⟩
        · rw [alook_cons, upd_eq] at hq'
          split at hq'
          · rename_i e; exact .inr ⟨t, by rw [e]; exact List.mem_cons_self⟩
          · exact (hi.tok k q' hq').imp (fun h => h) fun ⟨t1, h⟩ => ⟨t1, List.mem_cons_of_mem _ h⟩
        · obtain ⟨h1, cs, h2, h3⟩ := hi.box b cs' hb'
          exact ⟨h1, cs, h2, h3.mono (fun _ h => List.mem_cons_of_mem _ h) fun _ h => h⟩
        · exact (hi.slot i sl hs).mono (fun _ h => List.mem_cons_of_mem _ h) (fun _ h => h) fun _ h => h

theorem normCells_inv {L hb : Nat} {st : St} : ∀ {cs cs' : List Cell} {ty : List (Option (Nat × Nat × Nat))} {s s' : Norm} {nils : List Nat}, normCells L st.tok s ty cs = some (cs', s') → NInv L hb st s nils →
    ∃ nils', NInv L hb st s' nils' ∧ RenL s'.ren nils' cs cs' ∧ (∀ x ∈ s.ren, x ∈ s'.ren) ∧ (∀ x ∈ nils, x ∈ nils') ∧ s'.slots = s.slots ∧ s'.boxes = s.boxes
  | [], cs', ty, s, s', nils, h, hi => by
    obtain ⟨rfl, rfl⟩ : [] = cs' ∧ s = s' := by simpa [normCells] using h
    exact ⟨nils, hi, .nil, fun _ h => h, fun _ h => h, rfl, rfl⟩
  | c :: cs, cs', ty, s, s', nils, h, hi => by
    simp only [normCells] at h
    cases h1 : normCell L st.tok (ty.headD none) s c with
    | none => rw [h1] at h; cases h
    | some x =>
      obtain ⟨c1, s1⟩ := x
      rw [h1] at h
      simp only at h
      cases h2 : normCells L st.tok s1 ty.tail cs with
      | none => rw [h2] at h; cases h
      | some y =>
        obtain ⟨cs2, s2⟩ := y
        rw [h2] at h
        obtain ⟨rfl, rfl⟩ : c1 :: cs2 = cs' ∧ s2 = s' := by simpa using h
        obtain ⟨n1, i1, r1, m1, k1, e1, f1⟩ := normCell_inv h1 hi
        obtain ⟨n2, i2, r2, m2, k2, e2, f2⟩ := normCells_inv h2 i1
        exact ⟨n2, i2, .cons (r1.mono m2 k2) r2, fun x hx => m2 x (m1 x hx), fun x hx => k2 x (k1 x hx), e2.trans e1, f2.trans f1⟩

theorem normBoxes_inv {L hb : Nat} {st : St} {ty : List (Option (Nat × Nat × Nat))} : ∀ {bs : List Nat} {s s' : Norm} {nils : List Nat}, normBoxes L hb st ty s bs = some s' → NInv L hb st s nils →
    ∃ nils', NInv L hb st s' nils' ∧ (∀ b ∈ bs, b < hb ∧ ∃ cs', alook s'.boxes b = some cs') ∧ (∀ x ∈ s.ren, x ∈ s'.ren) ∧ (∀ x ∈ nils, x ∈ nils') ∧ s'.slots = s.slots ∧ ∀ b cs', alook s.boxes b = some cs' → ∃ cs'', alook s'.boxes b = some cs''
  | [], s, s', nils, h, hi => by
    obtain rfl : s = s' := by simpa [normBoxes] using h
    exact ⟨nils, hi, fun _ h => (nomatch h), fun _ h => h, fun _ h => h, rfl, fun b cs' h => ⟨cs', h⟩⟩
  | b :: bs, s, s', nils, h, hi => by
    simp only [normBoxes] at h
    cases h1 : alook s.boxes b with
    | some cs0 =>
      rw [h1] at h
      obtain ⟨n1, i1, q1, m1, k1, e1, f1⟩ := normBoxes_inv h hi
      refine ⟨n1, i1, fun b' hb' => ?_, m1, k1, e1, f1⟩
      rcases List.mem_cons.1 hb' with rfl | hb'
      · exact ⟨(hi.box b' cs0 h1).1, f1 b' cs0 h1⟩
      · exact q1 b' hb'
    | none =>
      rw [h1] at h
      simp only at h
      cases hlt : Nat.blt b hb with
      | false => rw [hlt] at h; cases h
      | true =>
        cases hbx : st.box b with
        | none => rw [hlt, hbx] at h; cases h
        | some cs =>
          rw [hlt, hbx] at h
          simp only at h
          cases h2 : normCells L st.tok s ty cs with
          | none => rw [h2] at h; cases h
          | some y =>
            obtain ⟨cs2, s2⟩ := y
            rw [h2] at h
            simp only at h
            obtain ⟨n1, i1, r1, m1, k1, e1, f1⟩ := normCells_inv h2 hi
            have hltb : b < hb := Nat.le_of_ble_eq_true hlt
            have i2 : NInv L hb st { s2 with boxes := (b, cs2) :: s2.boxes } n1 := ⟨i1.lo, i1.ren, i1.fn, i1.inj, i1.nil, i1.tok, fun b' cs' hb' => by
                have hb2 : upd (alook s2.boxes) b (some cs2) b' = some cs' := hb'
                rw [upd_eq] at hb2
                split at hb2
                · rename_i e
                  rw [e, ← Option.some.inj hb2]
                  exact ⟨hltb, cs, hbx, r1⟩
                · exact i1.box b' cs' hb2, fun i sl hs => (i1.slot i sl hs).mono (fun _ h => h) (fun _ h => h) fun b' hb' => ⟨hb'.1, by
                  obtain ⟨cs', hc⟩ := hb'.2
                  show ∃ cs', upd (alook s2.boxes) b (some cs2) b' = some cs'
                  rw [upd_eq]; split
                  · exact ⟨_, rfl⟩
                  · exact ⟨cs', hc⟩⟩⟩
            obtain ⟨n3, i3, q3, m3, k3, e3, f3⟩ := normBoxes_inv h i2
            refine ⟨n3, i3, fun b' hb' => ?_, fun x hx => m3 x (m1 x hx), fun x hx => k3 x (k1 x hx), e3.trans e1, fun b' cs' hb' => ?_⟩
            · rcases List.mem_cons.1 hb' with rfl | hb'
              · exact ⟨hltb, f3 b' cs2 (upd_self _ _ _)⟩
              · exact q3 b' hb'
            · by_cases e : b' = b
              · subst e; exact f3 b' cs2 (upd_self _ _ _)
              · exact f3 b' cs' ((upd_ne _ _ _ e).trans (by rw [f1]; exact hb'))

theorem slot_put {L hb : Nat} {st : St} {s : Norm} {nils : List Nat} {i : Nat} {sl : Slot} (hi : NInv L hb st s nils) (h : RenS s.ren nils (fun b => b < hb ∧ ∃ cs', alook s.boxes b = some cs') (st.slot i) sl) : NInv L hb st { s with slots := (i, sl) :: s.slots } nils :=
  { hi with
    slot := fun j sl' hs => by
      have hs2 : upd (alook s.slots) i (some sl) j = some sl' := hs
      rw [upd_eq] at hs2
      split at hs2
      · rename_i e
        rw [e, ← Option.some.inj hs2]
        exact h
      · exact hi.slot j sl' hs2 }

theorem normSlots_inv {L hb : Nat} {st : St} : ∀ {ks : List Keep} {s s' : Norm} {nils : List Nat}, normSlots L hb st s ks = some s' → NInv L hb st s nils → ∃ nils', NInv L hb st s' nils'
  | [], s, s', nils, h, hi => by
    obtain rfl : s = s' := by simpa [normSlots] using h
    exact ⟨nils, hi⟩
  | k :: ks, s, s', nils, h, hi => by
    simp only [normSlots] at h
    split at h
    · rename_i b cs hs
      split at h
      · rename_i cs' s1 h1
        obtain ⟨n1, i1, r1, m1, k1, e1, f1⟩ := normCells_inv h1 hi
        exact normSlots_inv h (slot_put i1 (by rw [hs]; exact .v r1))
      · cases h
    · rename_i b off hs
      split at h
      · rename_i s1 h1
        obtain ⟨n1, i1, q1, m1, k1, e1, f1⟩ := normBoxes_inv h1 hi
        exact normSlots_inv h (slot_put i1 (by rw [hs]; exact .lp (q1 b List.mem_cons_self)))
      · cases h
    · rename_i f caps hs
      split at h
      · rename_i s1 h1
        obtain ⟨n1, i1, q1, m1, k1, e1, f1⟩ := normBoxes_inv h1 hi
        exact normSlots_inv h (slot_put i1 (by rw [hs]; exact .fn q1))
      · cases h
    · rename_i xs i off hs
      exact normSlots_inv h (slot_put hi (by rw [hs]; exact .cp))
    · exact normSlots_inv h hi

end Go.Gl
