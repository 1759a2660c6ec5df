/- Slices and boxes that come in, under names of the state's own. -/
import Derived.Test.YtfkeggikdeenbaaL23
set_option linter.unusedVariables false
set_option linter.unusedSimpArgs false
namespace Go.Gl
open Go.RowKit

/-- What level L of a token owns. -/
theorem TokRep.levelTo {w : World} {K : CS} {t : Tok} {v : Value} {F : CS} (h : TokRep w K t v F) {L : Nat} (h0 : 0 < L) (hL : L ≤ t.L) :
    ∃ S : CS, (∀ b o, S b o → F b o) ∧ ∀ K' : CS, (∀ b o, K b o → K' b o) → (∀ b o, F b o → ¬ S b o → K' b o) → TokRep w K' { t with L := L } v S := by
  cases h with
  | nil => exact ⟨_, fun _ _ h => h, fun K' _ _ => .nil⟩
  | one f hh hz hn hcm hb hx hc hk hr =>
    simp only at hL
    obtain rfl : L = 1 := by omega
    exact ⟨_, fun _ _ h => h, fun K' h1 _ => .one f hh hz hn hcm hb hx hc (fun i j x d q1 q2 => h1 _ _ (hk i j x d q1 q2)) fun i j x d q1 q2 => (hr i j x d q1 q2).mono h1⟩
  | two f hh hz hn hcm hb hx hc hr =>
    simp only at hL
    rcases (show L = 1 ∨ L = 2 by omega) with rfl | rfl
    · have h' := TokRep.two (K := K) f hh hz hn hcm hb hx hc hr
      exact ⟨spare _ _ _, (h'.level1 (K' := fun _ _ => True) (fun _ _ _ => trivial) (fun _ _ _ _ => trivial)).2, fun K' h1 h2 => (h'.level1 h1 h2).1⟩
    · exact ⟨_, fun _ _ h => h, fun K' h1 _ => .two f hh hz hn hcm hb hx hc fun i j x d q1 q2 => (hr i j x d q1 q2).mono h1⟩
  | three f G hh hz hn hcm hb hx hc hr hg hd =>
    simp only at hL
    rcases (show L = 1 ∨ L = 2 ∨ L = 3 by omega) with rfl | rfl | rfl
    · have h' := TokRep.three (K := K) f G hh hz hn hcm hb hx hc hr hg hd
      exact ⟨spare _ _ _, (h'.level1 (K' := fun _ _ => True) (fun _ _ _ => trivial) (fun _ _ _ _ => trivial)).2, fun K' h1 h2 => (h'.level1 h1 h2).1⟩
    · refine ⟨_, fun _ _ h => .inl h, fun K' h1 h2 => .two f hh hz hn hcm hb hx hc fun i j x d q1 q2 => (hr i j x d q1 q2).repD fun b o hG => h2 b o (.inr ⟨i, j, x, d, q1, q2, hG⟩) fun hS => ?_⟩
      have e := hS.1
      subst e
      exact hg i j x d q1 q2 _ hG
    · exact ⟨_, fun _ _ h => h, fun K' h1 _ => .three f G hh hz hn hcm hb hx hc hr hg hd⟩

section
variable {P : Program} {en : En} {st : St} {Fr : Nat → Prop} {a : Act} {w w' w0 : World} {W K X : CS} {K0 : Kb} {o : Oper} {f : Nat}

/-- A token owns less from now on; the rest is read. -/
theorem RelE.relevel (r : RelE en st Fr a w w0 W K0) {t : Nat} {tk tk' : Tok} {S : CS} (ht : st.tok t = some tk) (hS : ∀ b o, S b o → en.FT t b o) (hT : TokRep w (fun b o => en.K b o ∨ (en.FT t b o ∧ ¬ S b o)) tk' (en.VT t) S)
    (he : tk.e = tk'.e) (hl : tk.xs.length ≤ tk'.xs.length) :
    RelE { en with K := fun b o => en.K b o ∨ (en.FT t b o ∧ ¬ S b o), FT := upd en.FT t S } (st.app (.tok t (some tk'))) Fr a w w0 W K0 := by
  have hn : ∀ t' q, upd st.tok t (some tk') t' = some q → (t' = t ∧ q = tk') ∨ (t' ≠ t ∧ st.tok t' = some q) := fun t' q h => by
    rw [upd_eq] at h; split at h
    · exact .inl ⟨by assumption, (Option.some.inj h).symm⟩
    · exact .inr ⟨by assumption, h⟩
  have hF : ∀ t', (∀ b o, upd en.FT t S t' b o → en.FT t' b o) := fun t' b o h => by
    rw [upd_eq] at h; split at h
    · rename_i e; subst e; exact hS b o h
    · exact h
  have hlive : ∀ t' q, upd st.tok t (some tk') t' = some q → ∃ tk0, st.tok t' = some tk0 := fun t' q h => by
    rcases hn t' q h with ⟨rfl, _⟩ | ⟨_, h⟩
    · exact ⟨tk, ht⟩
    · exact ⟨q, h⟩
  exact { r with
    free := { r.free with
      tok := fun i hi => by
        show upd st.tok t _ i = none
        rw [upd_ne _ _ _ (fun e => by rw [← e, r.free.tok i hi] at ht; cases ht)]
        exact r.free.tok i hi }
    slots := fun s => (r.slots s).env (fun _ _ h => .inl h) (fun _ _ => rfl) (fun _ _ => rfl) fun i q _ h => by
      rcases hn i q h with ⟨rfl, rfl⟩ | ⟨_, h⟩
      · exact ⟨tk, ht, he, hl⟩
      · exact ⟨q, h, rfl, Nat.le_refl _⟩
    boxes := fun b cs h => (r.boxes b cs h).env (fun _ _ h => .inl h) fun _ _ => rfl
    toks := fun t' q h => by
      rcases hn t' q h with ⟨rfl, rfl⟩ | ⟨hne, h⟩
      · show TokRep w _ _ (en.VT t') (upd en.FT t' S t')
        rw [upd_self]; exact hT
      · show TokRep w _ _ (en.VT t') (upd en.FT t S t')
        rw [upd_ne _ _ _ hne]; exact (r.toks t' q h).mono fun _ _ h => .inl h
    bt := fun b t' cs q h1 h2 o h3 => by
      obtain ⟨k0, h0⟩ := hlive t' q h2
      exact r.bt b t' cs k0 h1 h0 o (hF t' _ _ h3)
    tt := fun t1 t2 k1 k2 h1 h2 hne b o h3 h4 => by
      obtain ⟨k3, h5⟩ := hlive t1 k1 h1
      obtain ⟨k4, h6⟩ := hlive t2 k2 h2
      exact r.tt t1 t2 k3 k4 h5 h6 hne b o (hF t1 _ _ h3) (hF t2 _ _ h4)
    kb := fun b cs h o hk => hk.elim (r.kb b cs h o) fun h' => r.bt b t cs tk h ht o h'.1
    kt := fun t' q h b o h1 h2 => by
      obtain ⟨k3, h5⟩ := hlive t' q h
      rcases h2 with h2 | ⟨h2, h2'⟩
      · exact r.kt t' k3 h5 b o (hF t' _ _ h1) h2
      · by_cases e : t' = t
        · subst e
          have h1' : upd en.FT t' S t' b o := h1
          rw [upd_self] at h1'
          exact h2' h1'
        · exact r.tt t' t k3 tk h5 ht e b o (hF t' _ _ h1) h2
    ks := fun b o hk => hk.elim (r.ks b o) fun h' => .inr (r.ta t tk ht b o h'.1)
    kl := fun b o hk => hk.elim (r.kl b o) fun h' => (r.toks t tk ht).lt b o h'.1
    ta := fun t' q h b o h1 => by
      obtain ⟨k3, h5⟩ := hlive t' q h
      exact r.ta t' k3 h5 b o (hF t' _ _ h1) }

theorem RelE.lowerTo (r : RelE en st Fr a w w0 W K0) {t : Nat} {tk : Tok} (ht : st.tok t = some tk) {L : Nat} (h0 : 0 < L) (hL : L ≤ tk.L) :
    ∃ K' FT', RelE { en with K := K', FT := FT' } (st.app (.tok t (some { tk with L := L }))) Fr a w w0 W K0 ∧ (∀ b o, en.K b o → K' b o) ∧ ∀ k, k ≠ t → FT' k = en.FT k := by
  obtain ⟨S, h1, h2⟩ := (r.toks t tk ht).levelTo h0 hL
  exact ⟨_, _, r.relevel ht h1 (h2 _ (fun _ _ h => .inl h) fun b o h3 h4 => .inr ⟨h3, h4⟩) rfl (Nat.le_refl _), fun _ _ h => .inl h, fun k hk => upd_ne _ _ _ hk⟩

theorem down_other (tok0 : Nat → Option Tok) (L : Nat) : ∀ (l : List Nat) (s : St), (s.apps (toksDown tok0 L l)).slot = s.slot ∧ (s.apps (toksDown tok0 L l)).box = s.box ∧ ∀ t, t ∉ l → (s.apps (toksDown tok0 L l)).tok t = s.tok t
  | [], s => ⟨rfl, rfl, fun _ _ => rfl⟩
  | x :: l, s => by
    unfold toksDown
    cases hx : tok0 x with
    | none =>
      obtain ⟨h1, h2, h3⟩ := down_other tok0 L l s
      exact ⟨h1, h2, fun t ht => h3 t fun h => ht (List.mem_cons_of_mem _ h)⟩
    | some q =>
      obtain ⟨h1, h2, h3⟩ := down_other tok0 L l (s.app (.tok x (some { q with L := L })))
      refine ⟨h1, h2, fun t ht => (h3 t fun h => ht (List.mem_cons_of_mem _ h)).trans ?_⟩
      exact upd_ne _ _ _ fun e => ht (by rw [e]; exact List.mem_cons_self)

theorem RelE.lowerAll {tok0 : Nat → Option Tok} : ∀ {l : List Nat} {en : En} {st : St} (r : RelE en st Fr a w w0 W K0) (h0 : ∀ t q, tok0 t = some q → t ∈ l → st.tok t = some q ∨ st.tok t = some { q with L := 1 }),
    ∃ en1, RelE en1 (st.apps (toksDown tok0 1 l)) Fr a w w0 W K0 ∧ (∀ b o, en.K b o → en1.K b o) ∧ en1.FB = en.FB ∧ en1.VT = en.VT ∧ ∀ t ∈ l, ∀ q, tok0 t = some q → RepD w en1.K (.sl q.B q.xs) (en.VT t)
  | [], en, st, r, h0 => ⟨en, r, fun _ _ h => h, rfl, rfl, fun _ h => by cases h⟩
  | x :: l, en, st, r, h0 => by
    unfold toksDown
    cases hx : tok0 x with
    | none =>
      obtain ⟨en1, r1, h1, h2, h3, h4⟩ := RelE.lowerAll (tok0 := tok0) (l := l) r fun t q h hm => h0 t q h (List.mem_cons_of_mem _ hm)
      refine ⟨en1, r1, h1, h2, h3, fun t ht q hq => ?_⟩
      rcases List.mem_cons.1 ht with rfl | ht
      · rw [hx] at hq; cases hq
      · exact h4 t ht q hq
    | some q =>
      obtain ⟨en1, r1, k1, k2, k3, k4⟩ : ∃ en1, RelE en1 (st.app (.tok x (some { q with L := 1 }))) Fr a w w0 W K0 ∧ (∀ b o, en.K b o → en1.K b o) ∧ en1.FB = en.FB ∧ en1.VT = en.VT ∧ RepD w en1.K (.sl q.B q.xs) (en.VT x) := by
        rcases h0 x q hx List.mem_cons_self with h | h
        · exact r.lower h
        · exact r.lower (tk := { q with L := 1 }) h
      obtain ⟨en2, r2, h1, h2, h3, h4⟩ := RelE.lowerAll (tok0 := tok0) (l := l) r1 fun t q' h hm => by
        by_cases e : t = x
        · subst e
          rw [hx] at h
          obtain rfl := Option.some.inj h
          exact .inr (upd_self _ _ _)
        · rcases h0 t q' h (List.mem_cons_of_mem _ hm) with h | h
          · exact .inl ((upd_ne _ _ _ e).trans h)
          · exact .inr ((upd_ne _ _ _ e).trans h)
      refine ⟨en2, r2, fun b o h => h1 b o (k1 b o h), h2.trans k2, h3.trans k3, fun t ht q' hq' => ?_⟩
      rcases List.mem_cons.1 ht with rfl | ht
      · rw [hx] at hq'
        obtain rfl := Option.some.inj hq'
        exact k4.mono h1
      · rw [← k3]; exact h4 t ht q' hq'

/-- What comes in fits: it is no one's. -/
def Fits (en : En) (st : St) (w0 : World) (W : CS) (Ls : List CS) : Prop := ∀ F ∈ Ls, Loose en st w0 W F

/-- Names that are taken. -/
def Rng (f n : Nat) (k : Nat) : Prop := f ≤ k ∧ k < f + n

theorem cellsRep_cons {c : Cell} {cs : List Cell} {u : Value} {us : List Value} (h : CellRep w en c u) (hs : CellsRep w en cs us.toArray) : CellsRep w en (c :: cs) (u :: us).toArray := by
  refine ⟨by simpa using hs.1, fun j d hj => ?_⟩
  cases j with
  | zero => obtain rfl := Option.some.inj hj; exact ⟨u, rfl, h⟩
  | succ j =>
    obtain ⟨x, h1, h2⟩ := hs.2 j d hj
    exact ⟨x, by simpa using h1, h2⟩

theorem cellsRep_nil : CellsRep w en [] ([] : List Value).toArray := ⟨rfl, fun j d hj => by simp at hj⟩

theorem name_men : ∀ {cs : List ACell} {f k : Nat}, cellsMen k (nameA f cs) → Rng f (cntA cs) k
  | [], f, k, ⟨c, h, _⟩ => by cases h
  | .any :: r, f, k, ⟨c, h, hm⟩ => by
    rcases List.mem_cons.1 h with rfl | h
    · exact hm.elim
    · exact name_men (cs := r) ⟨c, h, hm⟩
  | .c _ :: r, f, k, ⟨c, h, hm⟩ => by
    rcases List.mem_cons.1 h with rfl | h
    · exact hm.elim
    · exact name_men (cs := r) ⟨c, h, hm⟩
  | .nil :: r, f, k, ⟨c, h, hm⟩ => by
    rcases List.mem_cons.1 h with rfl | h
    · exact hm.elim
    · exact name_men (cs := r) ⟨c, h, hm⟩
  | .own t :: r, f, k, ⟨c, h, hm⟩ => by
    simp only [cntA, Rng]
    rcases List.mem_cons.1 h with rfl | h
    · obtain rfl : f = k := hm
      omega
    · have := name_men (cs := r) (f := f + 1) ⟨c, h, hm⟩
      simp only [Rng] at this
      omega

/-- Cells come in, with what they own. -/
theorem RelE.addA : ∀ {cs : List ACell} {us : List Value} {Fs : List CS} {en : En} {st : St} {Fr : Nat → Prop} {f : Nat} (r : RelE en st Fr a w w0 W K0) (h : ARepL w en.K cs us Fs) (hfit : Fits en st w0 W Fs)
    (hd : Fs.Pairwise fun F G => ∀ b o, F b o → ¬ G b o) (hfr : ∀ k, Rng f (cntA cs) k → Fr k),
    ∃ en', RelE en' (st.apps (toksA f cs)) (fun k => Fr k ∧ ¬ Rng f (cntA cs) k) a w w0 W K0 ∧ CellsRep w en' (nameA f cs) us.toArray ∧ en'.K = en.K ∧ en'.FB = en.FB ∧ (∀ k, ¬ Rng f (cntA cs) k → en'.FT k = en.FT k ∧ en'.VT k = en.VT k) ∧
      ∀ Ls, Fits en st w0 W Ls → (∀ F ∈ Fs, ∀ G ∈ Ls, ∀ b o, F b o → ¬ G b o) → Fits en' (st.apps (toksA f cs)) w0 W Ls
  | [], us, Fs, en, st, Fr, f, r, h, hfit, hd, hfr => by
    cases h
    exact ⟨en, r.fewer fun _ h => h.1, cellsRep_nil, rfl, rfl, fun _ _ => ⟨rfl, rfl⟩, fun _ h _ => h⟩
  | c :: cs, us, Fs, en, st, Fr, f, r, h, hfit, hd, hfr => by
    cases h with
    | cons h1 ht =>
      rename_i v F vs Gs
      have hd2 := (List.pairwise_cons.1 hd)
      have fit2 : Fits en st w0 W Gs := fun G hG => hfit G (List.mem_cons_of_mem _ hG)
      have plain : ∀ {c' : Cell}, CellRep w en c' v → (∀ k, ¬ c'.men k) → cntA (c :: cs) = cntA cs → nameA f (c :: cs) = c' :: nameA f cs → toksA f (c :: cs) = toksA f cs →
          ∃ en', RelE en' (st.apps (toksA f (c :: cs))) (fun k => Fr k ∧ ¬ Rng f (cntA (c :: cs)) k) a w w0 W K0 ∧ CellsRep w en' (nameA f (c :: cs)) (v :: vs).toArray ∧ en'.K = en.K ∧ en'.FB = en.FB ∧ (∀ k, ¬ Rng f (cntA (c :: cs)) k → en'.FT k = en.FT k ∧ en'.VT k = en.VT k) ∧
            ∀ Ls, Fits en st w0 W Ls → (∀ F' ∈ F :: Gs, ∀ G ∈ Ls, ∀ b o, F' b o → ¬ G b o) → Fits en' (st.apps (toksA f (c :: cs))) w0 W Ls := by
        intro c' hc hm e1 e2 e3
        rw [e1, e2, e3]
        obtain ⟨en', q1, q2, q3, q4, q5, q6⟩ := RelE.addA r ht fit2 hd2.2 (fun k hk => hfr k (by rw [e1]; exact hk))
        refine ⟨en', q1, cellsRep_cons (hc.env (fun b o h => by rw [q3]; exact h) fun i hi => (hm i hi).elim) q2, q3, q4, q5, fun Ls hl hx => q6 Ls hl fun F' hF' => hx F' (List.mem_cons_of_mem _ hF')⟩
      cases h1 with
      | any h => exact plain (.any h) (fun _ h => h) rfl rfl rfl
      | c h => exact plain (.c h) (fun _ h => h) rfl rfl rfl
      | nil => exact plain .nil (fun _ h => h) rfl rfl rfl
      | own h =>
        rename_i t
        have hl := hfit F List.mem_cons_self
        have hff : Fr f := hfr f ⟨Nat.le_refl _, by simp only [cntA]; omega⟩
        have r1 := r.newTok hff h hl.k hl.b hl.t hl.a
        have keep : ∀ Ls, Fits en st w0 W Ls → (∀ G ∈ Ls, ∀ b o, F b o → ¬ G b o) → Fits { en with FT := upd en.FT f F, VT := upd en.VT f v } (st.app (.tok f (some t))) w0 W Ls := by
          intro Ls hLs hx G hG
          have hG' := hLs G hG
          refine ⟨hG'.k, hG'.b, fun t' q hq b o h1 h2 => ?_, hG'.a⟩
          have h2' : upd en.FT f F t' b o := h2
          have hq' : upd st.tok f (some t) t' = some q := hq
          rw [upd_eq] at h2' hq'
          split at h2'
          · exact hx G hG b o h2' h1
          · rename_i hne
            rw [if_neg hne] at hq'
            exact hG'.t t' q hq' b o h1 h2'
        obtain ⟨en', q1, q2, q3, q4, q5, q6⟩ := RelE.addA (f := f + 1) r1 (us := vs) (Fs := Gs) ht (keep Gs fit2 hd2.1) hd2.2 (fun k hk => ⟨hfr k ⟨by have := hk.1; omega, by have := hk.2; simp only [cntA]; omega⟩, by have := hk.1; omega⟩)
        have hout : ¬ Rng (f + 1) (cntA cs) f := fun h => by have := h.1; omega
        refine ⟨en', q1.fewer ?_, cellsRep_cons ?_ q2, q3, q4, fun k hk => ?_, fun Ls hLs hx => q6 Ls (keep Ls hLs fun G hG => hx F List.mem_cons_self G hG) fun F' hF' => hx F' (List.mem_cons_of_mem _ hF')⟩
        · rintro k ⟨h1, h2⟩
          simp only [Rng, cntA] at h2 ⊢
          exact ⟨⟨h1, by omega⟩, by omega⟩
        · have e : en'.VT f = v := (q5 f hout).2.trans (upd_self _ _ _)
          have hone := h.oneCell
          rw [← e] at hone ⊢
          exact .tk hone
        · simp only [Rng, cntA] at hk
          have h1 := q5 k (by simp only [Rng]; omega)
          exact ⟨h1.1.trans (upd_ne _ _ _ (by omega)), h1.2.trans (upd_ne _ _ _ (by omega))⟩

theorem toksA_n : ∀ (cs : List ACell) (f : Nat) (st : St), (st.apps (toksA f cs)).slot = st.slot ∧ (st.apps (toksA f cs)).box = st.box
  | [], f, st => ⟨rfl, rfl⟩
  | .any :: r, f, st => toksA_n r f st
  | .c _ :: r, f, st => toksA_n r f st
  | .nil :: r, f, st => toksA_n r f st
  | .own t :: r, f, st => toksA_n r (f + 1) (st.app (.tok f (some t)))

/-- A box's place is named. -/
theorem RelE.setFB (r : RelE en st Fr a w w0 W K0) {b : Nat} (hb : Fr b) (g : Nat) : RelE { en with FB := upd en.FB b g } st Fr a w w0 W K0 := by
  have hold : ∀ b' cs, st.box b' = some cs → upd en.FB b g b' = en.FB b' := fun b' cs h => upd_ne _ _ _ fun e => by rw [e, r.free.box b hb] at h; cases h
  exact { r with
    slots := fun s => (r.slots s).env (fun _ _ h => h) (fun _ _ => rfl) (fun i hi => upd_ne _ _ _ fun e => r.free.slot b hb s (e ▸ hi)) fun i q _ h => ⟨q, h, rfl, Nat.le_refl _⟩
    boxes := fun b' cs h => by
      show BoxRep w _ (upd en.FB b g b') cs
      rw [hold b' cs h]; exact (r.boxes b' cs h).env (fun _ _ h => h) fun _ _ => rfl
    bb := fun b1 b2 c1 c2 h1 h2 hne => by
      show upd en.FB b g b1 ≠ upd en.FB b g b2
      rw [hold b1 c1 h1, hold b2 c2 h2]; exact r.bb b1 b2 c1 c2 h1 h2 hne
    bt := fun b1 t c1 q h1 h2 o hf => by
      have hf' : en.FT t (upd en.FB b g b1) o := hf
      rw [hold b1 c1 h1] at hf'
      exact r.bt b1 t c1 q h1 h2 o hf'
    kb := fun b1 c1 h1 o hk => by
      have hk' : en.K (upd en.FB b g b1) o := hk
      rw [hold b1 c1 h1] at hk'
      exact r.kb b1 c1 h1 o hk'
    ba := fun b1 c1 h1 o => by
      show Al w0 W (upd en.FB b g b1) o
      rw [hold b1 c1 h1]; exact r.ba b1 c1 h1 o
    fb := fun b1 h1 => ⟨(upd_ne en.FB b g fun e : b1 = b => (r.fb b1 h1).2 (by rw [e]; exact hb)).trans (r.fb b1 h1).1, (r.fb b1 h1).2⟩ }

/-- A box comes in, at its place. -/
theorem RelE.addBox (r : RelE en st Fr a w w0 W K0) {b : Nat} {cs : List Cell} (hn : st.box b = none) (hc : BoxRep w en (en.FB b) cs) (hl : Loose en st w0 W (blk (en.FB b))) (hm : ∀ k, Fr k → k = b ∨ ¬ cellsMen k cs) (hmb : ¬ cellsMen b cs ∨ ¬ Fr b) :
    RelE en (st.app (.box b cs)) (fun k => Fr k ∧ k ≠ b) a w w0 W K0 := by
  have hb : ∀ b' c, upd st.box b (some cs) b' = some c → (b' = b ∧ c = cs) ∨ (b' ≠ b ∧ st.box b' = some c) := fun b' c h => by
    rw [upd_eq] at h; split at h
    · exact .inl ⟨by assumption, (Option.some.inj h).symm⟩
    · exact .inr ⟨by assumption, h⟩
  exact { r with
    free := ⟨fun i hi => r.free.slot i hi.1, fun i hi => (upd_ne _ _ _ hi.2).trans (r.free.box i hi.1), fun i hi => r.free.tok i hi.1, fun i hi b' c h => by
      rcases hb b' c h with ⟨rfl, rfl⟩ | ⟨_, h⟩
      · exact (hm i hi.1).resolve_left hi.2
      · exact r.free.cell i hi.1 b' c h⟩
    boxes := fun b' c h => by
      rcases hb b' c h with ⟨rfl, rfl⟩ | ⟨_, h⟩
      · exact hc
      · exact r.boxes b' c h
    bb := fun b1 b2 c1 c2 h1 h2 hne => by
      rcases hb b1 c1 h1 with ⟨e1, f1⟩ | ⟨n1, g1⟩ <;> rcases hb b2 c2 h2 with ⟨e2, f2⟩ | ⟨n2, g2⟩
      · exact absurd (e1.trans e2.symm) hne
      · exact fun e => hl.b b2 c2 g2 0 (by rw [← e, e1]; rfl)
      · exact fun e => hl.b b1 c1 g1 0 (by rw [e, e2]; rfl)
      · exact r.bb b1 b2 c1 c2 g1 g2 hne
    bt := fun b1 t c1 q h1 h2 o hf => by
      rcases hb b1 c1 h1 with ⟨rfl, rfl⟩ | ⟨n1, h1⟩
      · exact hl.t t q h2 _ o rfl hf
      · exact r.bt b1 t c1 q h1 h2 o hf
    kb := fun b1 c1 h1 o hk => by
      rcases hb b1 c1 h1 with ⟨rfl, rfl⟩ | ⟨n1, h1⟩
      · exact hl.k _ o rfl hk
      · exact r.kb b1 c1 h1 o hk
    ba := fun b1 c1 h1 o => by
      rcases hb b1 c1 h1 with ⟨rfl, rfl⟩ | ⟨n1, h1⟩
      · exact hl.a _ o rfl
      · exact r.ba b1 c1 h1 o
    fb := fun b1 h1 => ⟨(r.fb b1 h1).1, fun h => (r.fb b1 h1).2 h.1⟩ }

/-- A slot is told. -/
theorem RelE.tellSlot (r : RelE en st Fr a w w0 W K0) {i : Nat} {s : Slot} (h : SlotRep w en st.tok s (a.tmps.getD i undef)) (hm : ∀ k, Fr k → ¬ s.men k) : RelE en (st.app (.slot i s)) Fr a w w0 W K0 :=
  { r with
    free := { r.free with
      slot := fun k hk s' => by
        show ¬ Slot.men k (upd st.slot i s s')
        rw [upd_eq]; split
        · exact hm k hk
        · exact r.free.slot k hk s' }
    slots := fun s' => by
      show SlotRep w en st.tok (upd st.slot i s s') _
      rw [upd_eq]; split
      · rename_i e; subst e; exact h
      · exact r.slots s' }

end
end Go.Gl
