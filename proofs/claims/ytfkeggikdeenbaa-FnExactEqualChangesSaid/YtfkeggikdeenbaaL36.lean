/- A state at a loop's head tells what the state before it told. -/
import Derived.Test.YtfkeggikdeenbaaL35
set_option linter.unusedVariables false
set_option linter.unusedSimpArgs false
namespace Go.Gl
open Go.RowKit

/-- The name that a name at the head stands for. -/
def inv : List (Nat × Nat) → Nat → Option Nat
  | [], _ => none
  | (t, t') :: r, k => if k = t' then some t else inv r k

theorem inv_mem : ∀ {r : List (Nat × Nat)} {k t : Nat}, inv r k = some t → (t, k) ∈ r
  | [], _, _, h => by cases h
  | (t0, t') :: r, k, t, h => by
    unfold inv at h
    split at h
    · rename_i e
      obtain rfl := Option.some.inj h
      rw [e]; exact List.mem_cons_self
    · exact List.mem_cons_of_mem _ (inv_mem h)

theorem inv_none : ∀ {r : List (Nat × Nat)} {k : Nat}, inv r k = none → ∀ t, (t, k) ∉ r
  | [], _, _, _ => fun h => by cases h
  | (t0, t') :: r, k, h, t => by
    unfold inv at h
    split at h
    · cases h
    · rename_i e
      intro hm
      rcases List.mem_cons.1 hm with hm | hm
      · injection hm with e1 e2; exact e e2
      · exact inv_none h t hm

theorem inv_of {L hb : Nat} {st : St} {s : Norm} {nils : List Nat} (hi : NInv L hb st s nils) {t k : Nat} (h : (t, k) ∈ s.ren) : inv s.ren k = some t := by
  cases hk : inv s.ren k with
  | none => exact absurd h (inv_none hk t)
  | some t' => rw [hi.inj t' t k (inv_mem hk) h]

def renE (en : En) (ren : List (Nat × Nat)) : En where
  K := en.K
  FB := en.FB
  FT k := match inv ren k with | some t => en.FT t | none => fun _ _ => False
  VT k := match inv ren k with | some t => en.VT t | none => .slice none 0 0

def tok0 (st : St) (s : Norm) : Nat → Option Tok := fun k => match inv s.ren k with | some t => st.tok t | none => alook s.toks k

section
variable {en : En} {st : St} {Fr : Nat → Prop} {a : Act} {w w0 : World} {W : CS} {K0 : Kb} {L hb : Nat} {s : Norm} {nils : List Nat}

theorem renC_rep (hi : NInv L hb st s nils) {c c' : Cell} {v : Value} (h : RenC s.ren nils c c') (hc : CellRep w en c v) : CellRep w (renE en s.ren) c' v := by
  cases h with
  | any => cases hc with | any h => exact .any h
  | c => cases hc with | c h => exact .c h
  | nil => cases hc; exact .nil
  | new hk =>
    cases hc
    rename_i k
    have e : (renE en s.ren).VT k = .slice none 0 0 := by
      have hn : inv s.ren k = none := by
        cases hk' : inv s.ren k with
        | none => rfl
        | some t => exact absurd hk (hi.ren t k (inv_mem hk')).2.2.1
      simp only [renE, hn]
    rw [← e]
    exact .tk (by rw [e]; rfl)
  | tk hm =>
    rename_i t t'
    have e : (renE en s.ren).VT t' = en.VT t := by simp only [renE, inv_of hi hm]
    cases hc with
    | tk h => rw [← e] at h ⊢; exact .tk h
  | gone => exact .any hc.oneCell

theorem renL_rep (hi : NInv L hb st s nils) {cs cs' : List Cell} {arr : Array Value} (h : RenL s.ren nils cs cs') (hc : CellsRep w en cs arr) : CellsRep w (renE en s.ren) cs' arr := by
  have key : ∀ {cs cs' : List Cell} {us : List Value}, RenL s.ren nils cs cs' → CellsRep w en cs us.toArray → CellsRep w (renE en s.ren) cs' us.toArray := by
    intro cs cs' us h
    induction h generalizing us with
    | nil => intro hc; rw [cellsRep_nil_inv hc]; exact cellsRep_nil
    | cons h t ih =>
      intro hc
      obtain ⟨u, us', rfl, h1, h2⟩ := cellsRep_inv hc
      exact cellsRep_cons (renC_rep hi h h1) (ih h2)
  have := key (us := arr.toList) h (by simpa using hc)
  simpa using this

theorem renL_men {cs cs' : List Cell} (h : RenL s.ren nils cs cs') {k : Nat} (hm : cellsMen k cs') : k ∈ nils ∨ ∃ t, (t, k) ∈ s.ren := by
  induction h with
  | nil => obtain ⟨c, hc, _⟩ := hm; cases hc
  | cons h t ih =>
    obtain ⟨c, hc, hmm⟩ := hm
    rcases List.mem_cons.1 hc with rfl | hc
    · cases h with
      | new hk => have e : _ = k := hmm; rw [← e]; exact .inl hk
      | tk hm => have e : _ = k := hmm; rw [← e]; exact .inr ⟨_, hm⟩
      | _ => exact hmm.elim
    · exact ih ⟨c, hc, hmm⟩

theorem tok0_spec (hi : NInv L hb st s nils) {k : Nat} {q : Tok} (h : tok0 st s k = some q) : (∃ t, (t, k) ∈ s.ren ∧ st.tok t = some q ∧ inv s.ren k = some t) ∨ (k ∈ nils ∧ inv s.ren k = none ∧ ∃ T e B, q = ⟨L, T, e, B, []⟩) := by
  unfold tok0 at h
  cases hk : inv s.ren k with
  | some t => rw [hk] at h; exact .inl ⟨t, inv_mem hk, h, rfl⟩
  | none =>
    rw [hk] at h
    rcases hi.tok k q h with hn | ⟨t, ht⟩
    · obtain ⟨_, _, T, e, B, h2⟩ := hi.nil k hn
      rw [h2] at h
      exact .inr ⟨hn, rfl, T, e, B, (Option.some.inj h).symm⟩
    · exact absurd ht (inv_none hk t)

/-- The same, under the head's names. -/
theorem ren_rel (r : RelE en st Fr a w w0 W K0) (hi : NInv L hb st s nils) (hnt : s.nt ≤ hb + 64) (hkm : K0.m ≤ hb) :
    RelE (renE en s.ren) ⟨fun i => (alook s.slots i).getD .any, alook s.boxes, tok0 st s, hb + 64, st.n⟩ (fun k => hb + 64 ≤ k) a w w0 W K0 := by
  have names : ∀ k, (k ∈ nils ∨ ∃ t, (t, k) ∈ s.ren) → k < hb + 64 := fun k h => by
    rcases h with h | ⟨t, h⟩
    · have := (hi.nil k h).2.1; omega
    · have := (hi.ren t k h).2.1; omega
  have FTk : ∀ {k t}, inv s.ren k = some t → (renE en s.ren).FT k = en.FT t := fun h => by simp only [renE, h]
  have FTn : ∀ {k}, inv s.ren k = none → (renE en s.ren).FT k = fun _ _ => False := fun h => by simp only [renE, h]
  have VTk : ∀ {k t}, inv s.ren k = some t → (renE en s.ren).VT k = en.VT t := fun h => by simp only [renE, h]
  have VTn : ∀ {k}, inv s.ren k = none → (renE en s.ren).VT k = .slice none 0 0 := fun h => by simp only [renE, h]
  have live : ∀ {k q b o}, tok0 st s k = some q → (renE en s.ren).FT k b o → ∃ t, (t, k) ∈ s.ren ∧ st.tok t = some q ∧ en.FT t b o := fun {k q b o} h hf => by
    rcases tok0_spec hi h with ⟨t, h1, h2, h3⟩ | ⟨h1, h2, h3⟩
    · rw [FTk h3] at hf; exact ⟨t, h1, h2, hf⟩
    · rw [FTn h2] at hf; exact hf.elim
  have slotOf : ∀ i, (alook s.slots i = none ∧ (alook s.slots i).getD .any = .any) ∨ ∃ sl, alook s.slots i = some sl ∧ (alook s.slots i).getD .any = sl := fun i => by
    cases h : alook s.slots i with
    | none => exact .inl ⟨rfl, rfl⟩
    | some sl => exact .inr ⟨sl, rfl, rfl⟩
  exact {
    free := ⟨fun k hk i hm => by
        have hk' : hb + 64 ≤ k := hk
        have hm' : Slot.men k ((alook s.slots i).getD .any) := hm
        rcases slotOf i with ⟨_, e⟩ | ⟨sl, h, e⟩
        · rw [e] at hm'; exact hm'
        · rw [e] at hm'
          have hr := hi.slot i sl h
          generalize st.slot i = s0 at hr
          cases hr with
          | v hv => have := names k (renL_men hv hm'); omega
          | lp hv => have e2 : _ = k := hm'; have := hv.1; omega
          | fn hv => have := (hv k hm').1; omega
          | cp => exact hm',
      fun k hk => by
        have hk' : hb + 64 ≤ k := hk
        show alook s.boxes k = none
        cases h : alook s.boxes k with
        | none => rfl
        | some cs => have := (hi.box k cs h).1; omega,
      fun k hk => by
        have hk' : hb + 64 ≤ k := hk
        show tok0 st s k = none
        cases h : tok0 st s k with
        | none => rfl
        | some q =>
          rcases tok0_spec hi h with ⟨t, h1, _⟩ | ⟨h1, _⟩
          · have := names k (.inr ⟨t, h1⟩); omega
          · have := names k (.inl h1); omega,
      fun k hk b cs h hm => by
        have hk' : hb + 64 ≤ k := hk
        obtain ⟨_, _, _, h3⟩ := hi.box b cs h
        have := names k (renL_men h3 hm); omega⟩
    size := r.size
    defers := r.defers
    slots := fun i => by
      show SlotRep w _ _ ((alook s.slots i).getD .any) _
      rcases slotOf i with ⟨_, e⟩ | ⟨sl, h, e⟩
      · rw [e]; exact .any
      · rw [e]
        have hr := hi.slot i sl h
        have hs := r.slots i
        generalize st.slot i = s0 at hr hs
        generalize a.tmps.getD i undef = v at hs
        cases hr with
        | v hl =>
          cases hs with
          | v hs =>
            cases hs with
            | one hc =>
              cases hl with
              | cons h1 ht => cases ht; exact .v (.one (renC_rep hi h1 hc))
            | agg hc => exact .v (.agg (renL_rep hi hl hc))
        | lp h => cases hs; exact SlotRep.lp (en := renE en s.ren)
        | fn h => cases hs; exact SlotRep.fn (en := renE en s.ren)
        | cp => cases hs with | cp h1 h2 h3 => exact .cp h1 h2 h3
    boxes := fun b cs h => by
      obtain ⟨_, cs0, h2, h3⟩ := hi.box b cs h
      obtain ⟨arr, T, h4, h5⟩ := r.boxes b cs0 h2
      exact ⟨arr, T, h4, renL_rep hi h3 h5⟩
    toks := fun k q h => by
      rcases tok0_spec hi h with ⟨t, h1, h2, h3⟩ | ⟨h1, h2, T, e, B, rfl⟩
      · rw [FTk h3, VTk h3]; exact r.toks t q h2
      · rw [FTn h2, VTn h2]; exact .nil
    bb := fun b b' cs cs' h h' hne => by
      obtain ⟨_, c1, h2, _⟩ := hi.box b cs h
      obtain ⟨_, c2, h3, _⟩ := hi.box b' cs' h'
      exact r.bb b b' c1 c2 h2 h3 hne
    bt := fun b k cs q h h' o hf => by
      obtain ⟨_, c1, h2, _⟩ := hi.box b cs h
      obtain ⟨t, _, h3, h4⟩ := live h' hf
      exact r.bt b t c1 q h2 h3 o h4
    tt := fun k k' q q' h h' hne b o hf hf' => by
      obtain ⟨t, h1, h2, h3⟩ := live h hf
      obtain ⟨t', h1', h2', h3'⟩ := live h' hf'
      exact r.tt t t' q q' h2 h2' (fun e => hne (hi.fn t k k' h1 (e ▸ h1'))) b o h3 h3'
    kb := fun b cs h o hk => by
      obtain ⟨_, c1, h2, _⟩ := hi.box b cs h
      exact r.kb b c1 h2 o hk
    kt := fun k q h b o hf hk => by
      obtain ⟨t, h1, h2, h3⟩ := live h hf
      exact r.kt t q h2 b o h3 hk
    ks := r.ks
    kl := r.kl
    ba := fun b cs h o => by
      obtain ⟨_, c1, h2, _⟩ := hi.box b cs h
      exact r.ba b c1 h2 o
    ta := fun k q h b o hf => by
      obtain ⟨t, h1, h2, h3⟩ := live h hf
      exact r.ta t q h2 b o h3
    un := r.un
    fb := fun b h => ⟨(r.fb b h).1, fun h' => by omega⟩ }

theorem lower_ren (h0 : 0 < L) : ∀ {ren : List (Nat × Nat)} {en : En} {S : St} (r : RelE en S Fr a w w0 W K0) (h : ∀ x ∈ ren, ∃ q, S.tok x.2 = some q ∧ L ≤ q.L),
    ∃ en' S', RelE en' S' Fr a w w0 W K0 ∧ S'.slot = S.slot ∧ S'.box = S.box ∧ S'.base = S.base ∧ S'.n = S.n ∧ (∀ k, (∀ t, (t, k) ∉ ren) → S'.tok k = S.tok k) ∧ ∀ t k q, (t, k) ∈ ren → S.tok k = some q → S'.tok k = some { q with L := L }
  | [], en, S, r, h => ⟨en, S, r, rfl, rfl, rfl, rfl, fun _ _ => rfl, fun _ _ _ h => by cases h⟩
  | (t0, k0) :: ren, en, S, r, h => by
    obtain ⟨q0, hq0, hL⟩ := h (t0, k0) List.mem_cons_self
    obtain ⟨K', FT', r1, _, _⟩ := r.lowerTo hq0 h0 hL
    have htok : ∀ k, (S.app (.tok k0 (some { q0 with L := L }))).tok k = if k = k0 then some { q0 with L := L } else S.tok k := fun k => upd_eq _ _ _ _
    obtain ⟨en', S', r2, e1, e2, e3, e4, e5, e6⟩ := lower_ren h0 (ren := ren) r1 fun x hx => by
      rw [htok]
      split
      · exact ⟨_, rfl, Nat.le_refl _⟩
      · exact h x (List.mem_cons_of_mem _ hx)
    refine ⟨en', S', r2, e1, e2, e3, e4, fun k hk => ?_, fun t k q hm hq => ?_⟩
    · rw [e5 k fun t ht => hk t (List.mem_cons_of_mem _ ht), htok, if_neg fun e => hk t0 (by rw [e]; exact List.mem_cons_self)]
    · by_cases e : k = k0
      · subst e
        rw [hq0] at hq
        obtain rfl := Option.some.inj hq
        by_cases hin : ∃ t', (t', k) ∈ ren
        · obtain ⟨t', ht'⟩ := hin
          exact e6 t' k { q0 with L := L } ht' (by rw [htok, if_pos rfl])
        · rw [e5 k fun t' ht' => hin ⟨t', ht'⟩, htok, if_pos rfl]
      · rcases List.mem_cons.1 hm with hm | hm
        · injection hm with _ e2; exact absurd e2 e
        · exact e6 t k q hm (by rw [htok, if_neg e]; exact hq)

end

/-- A state at a loop's head. -/
theorem norm_rel {en : En} {st st' : St} {Fr : Nat → Prop} {a : Act} {w w0 : World} {W : CS} {K0 : Kb} {h : Head} (r : RelE en st Fr a w w0 W K0) (hn : norm h st = some st') :
    ∃ en', RelE en' st' (fun k => st'.base ≤ k) a w w0 W K0 ∧ st'.n = st.n := by
  unfold norm at hn
  split at hn
  · rename_i s hs
    obtain ⟨hle, hn⟩ := bif_some hn
    simp only [Bool.and_eq_true] at hle
    have hL : 0 < h.L := Nat.le_of_ble_eq_true hle.2.1
    have hkm : K0.m ≤ h.hb := Nat.le_trans K0.hm (Nat.le_of_ble_eq_true hle.2.2)
    have hle := Nat.le_of_ble_eq_true hle.1
    obtain rfl := Option.some.inj hn
    have i0 : NInv h.L h.hb st ⟨h.hb, [], [], [], []⟩ [] := ⟨Nat.le_refl _, fun _ _ h => (nomatch h), fun _ _ _ h => (nomatch h), fun _ _ _ h => (nomatch h), fun _ h => (nomatch h), fun _ _ h => (nomatch h), fun _ _ h => (nomatch h), fun _ _ h => (nomatch h)⟩
    obtain ⟨nils, hi⟩ := normSlots_inv hs i0
    have r1 := ren_rel r hi hle hkm
    have t0 : ∀ t k, (t, k) ∈ s.ren → tok0 st s k = st.tok t := fun t k hm => by unfold tok0; rw [inv_of hi hm]
    obtain ⟨en', S', r2, e1, e2, e3, e4, e5, e6⟩ := lower_ren hL (ren := s.ren) r1 fun x hx => by
      obtain ⟨t, k⟩ := x
      obtain ⟨_, _, _, q, h4, h5, _⟩ := hi.ren t k hx
      exact ⟨q, (t0 t k hx).trans h4, h5⟩
    have hS : S' = St.of s.slots s.boxes s.toks (h.hb + 64) st.n := by
      refine St.ext (fun i => congrFun e1 i) (fun b => congrFun e2 b) (fun k => ?_) e3 e4
      show S'.tok k = alook s.toks k
      by_cases hin : ∃ t, (t, k) ∈ s.ren
      · obtain ⟨t, ht⟩ := hin
        obtain ⟨_, _, _, q, h4, h5, h6⟩ := hi.ren t k ht
        rw [e6 t k q ht ((t0 t k ht).trans h4), h6]
      · rw [e5 k fun t ht => hin ⟨t, ht⟩]
        show tok0 st s k = _
        have : inv s.ren k = none := by
          cases hk : inv s.ren k with
          | none => rfl
          | some t => exact absurd ⟨t, inv_mem hk⟩ hin
        unfold tok0
        rw [this]
    rw [hS] at r2
    exact ⟨en', r2, rfl⟩
  · cases hn

end Go.Gl
