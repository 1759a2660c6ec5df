/- What a call leaves. -/
import Derived.Test.YtfkeggikdeenbaaL26
set_option linter.unusedVariables false
set_option linter.unusedSimpArgs false
namespace Go.Gl
open Go.RowKit

theorem ARep.mono {w : World} {K K' : CS} {c : ACell} {v : Value} {F : CS} (h : ARep w K c v F) (hk : ∀ b o, K b o → K' b o) : ARep w K' c v F := by
  cases h with
  | any h => exact .any h
  | c h => exact .c (h.mono hk)
  | nil => exact .nil
  | own h => exact .own (h.mono hk)

theorem ARepL.mono {w : World} {K K' : CS} {cs : List ACell} {vs : List Value} {Fs : List CS} (h : ARepL w K cs vs Fs) (hk : ∀ b o, K b o → K' b o) : ARepL w K' cs vs Fs := by
  induction h with
  | nil => exact .nil
  | cons h t ih => exact .cons (h.mono hk) ih

theorem AVal.mono {w : World} {K K' : CS} {b : Bool} {cs : List ACell} {v : Value} {Fs : List CS} (h : AVal w K b cs v Fs) (hk : ∀ b o, K b o → K' b o) : AVal w K' b cs v Fs := by
  cases h with
  | one h => exact .one (h.mono hk)
  | agg h => exact .agg (h.mono hk)

theorem ResRep.mono {w : World} {K K' : CS} {xs : List (Bool × List ACell)} {vs : List Value} {Ls : List CS} (h : ResRep w K xs vs Ls) (hk : ∀ b o, K b o → K' b o) : ResRep w K' xs vs Ls := by
  induction h with
  | nil => exact .nil
  | cons h t ih => exact .cons (h.mono hk) ih

theorem BRepL.mono {w : World} {K K' : CS} {xs : List (List ACell)} {gs : List Nat} {Ls : List CS} (h : BRepL w K xs gs Ls) (hk : ∀ b o, K b o → K' b o) : BRepL w K' xs gs Ls := by
  induction h with
  | nil => exact .nil
  | cons hh h t ih => exact .cons hh (h.mono hk) ih

theorem offs_box (bs : List Nat) (st : St) (b : Nat) : (st.apps (offs bs)).box b = if b ∈ bs then none else st.box b := by
  induction bs generalizing st with
  | nil => simp [offs, St.apps]
  | cons x bs ih =>
    show ((st.app (.off x)).apps (offs bs)).box b = _
    rw [ih]
    show (if b ∈ bs then none else upd st.box x none b) = _
    rw [upd_eq]
    by_cases h1 : b ∈ bs
    · simp [h1]
    · by_cases h2 : b = x <;> simp [h1, h2]

theorem offs_other (bs : List Nat) (st : St) : (st.apps (offs bs)).slot = st.slot ∧ (st.apps (offs bs)).tok = st.tok := by
  induction bs generalizing st with
  | nil => exact ⟨rfl, rfl⟩
  | cons x bs ih => exact ih _

section
variable {P : Program} {en : En} {st : St} {Fr : Nat → Prop} {a : Act} {w w' w0 : World} {W X : CS} {K0 : Kb} {o : Oper} {f : Nat}

/-- A box is given away. -/
theorem RelE.offBox (r : RelE en st Fr a w w0 W K0) (b : Nat) : RelE en (st.app (.off b)) Fr a w w0 W K0 := by
  have hn : ∀ b' c, upd st.box b none b' = some c → st.box b' = some c := fun b' c h => by
    rw [upd_eq] at h; split at h
    · cases h
    · exact h
  exact { r with
    free := { r.free with
      box := fun i hi => by
        show upd st.box b none i = none
        rw [upd_eq]; split
        · rfl
        · exact r.free.box i hi
      cell := fun i hi b' c h => r.free.cell i hi b' c (hn b' c h) }
    boxes := fun b' c h => r.boxes b' c (hn b' c h)
    bb := fun b1 b2 c1 c2 h1 h2 => r.bb b1 b2 c1 c2 (hn _ _ h1) (hn _ _ h2)
    bt := fun b1 t c1 q h1 => r.bt b1 t c1 q (hn _ _ h1)
    kb := fun b1 c1 h1 => r.kb b1 c1 (hn _ _ h1)
    ba := fun b1 c1 h1 => r.ba b1 c1 (hn _ _ h1) }

theorem RelE.offAll (r : RelE en st Fr a w w0 W K0) (bs : List Nat) : RelE en (st.apps (offs bs)) Fr a w w0 W K0 := by
  induction bs generalizing st with
  | nil => exact r
  | cons b bs ih => exact ih (r.offBox b)

/-- Results come in. -/
theorem RelE.addVals : ∀ {xs : List (Bool × List ACell)} {vs : List Value} {Ls : List CS} {en : En} {st : St} {Fr : Nat → Prop} {f : Nat} (r : RelE en st Fr a w w0 W K0) (h : ResRep w en.K xs vs Ls) (hfit : Fits en st w0 W Ls)
    (hd : Ls.Pairwise fun F G => ∀ b o, F b o → ¬ G b o) (hfr : ∀ k, Rng f (cntV xs) k → Fr k),
    ∃ en', RelE en' (st.apps (valUpds f xs)) (fun k => Fr k ∧ ¬ Rng f (cntV xs) k) a w w0 W K0 ∧ ((valSlots f xs).length = vs.length ∧ ∀ (j : Nat) (x : Bool × List Cell), (valSlots f xs)[j]? = some x → (∀ k, cellsMen k x.2 → Rng f (cntV xs) k) ∧ ∃ v, vs[j]? = some v ∧ ValRep w en' x.1 x.2 v) ∧ en'.FB = en.FB ∧
      Ext en en' st (st.apps (valUpds f xs)) w0 W (Rng f (cntV xs)) Ls ∧ (st.apps (valUpds f xs)).box = st.box ∧ (st.apps (valUpds f xs)).slot = st.slot
  | [], vs, Ls, en, st, Fr, f, r, h, hfit, hd, hfr => by
    cases h
    exact ⟨en, r.fewer fun _ h => h.1, ⟨rfl, fun j x hj => by simp [valSlots] at hj⟩, rfl, .refl _ _ _ _ _, rfl, rfl⟩
  | x :: xs, vs, Ls, en, st, Fr, f, r, h, hfit, hd, hfr => by
    cases h with
    | cons h1 h2 =>
      rename_i v Fs vs Ls
      simp only [cntV] at hfr ⊢
      obtain ⟨p1, p2, p3⟩ := pw_append hd
      obtain ⟨us, h3, h4⟩ := h1.cells
      obtain ⟨en1, r1, c1, f1, e1⟩ := r.addE (f := f) h3 hfit.left p1 (fun k hk => hfr k ⟨hk.1, by have := hk.2; omega⟩)
      have h2' : ResRep w en1.K xs vs Ls := by rw [e1.K]; exact h2
      obtain ⟨en2, r2, ⟨l2, v2⟩, f2, e2, b2, s2⟩ := RelE.addVals (f := f + cntA x.2) r1 h2' (e1.fit Ls hfit.right p3) p2 (fun k hk => ⟨hfr k ⟨by have := hk.1; omega, by have := hk.2; omega⟩, fun h => by have := h.2; have := hk.1; omega⟩)
      have hst : (st.apps (toksA f x.2)).apps (valUpds (f + cntA x.2) xs) = st.apps (valUpds f (x :: xs)) := by simp only [valUpds]; rw [apps_append]
      rw [hst] at r2 e2 b2 s2
      refine ⟨en2, r2.fewer ?_, ⟨by simp [valSlots, l2], fun j y hj => ?_⟩, f2.trans f1, e1.trans e2 ?_, b2.trans (toksA_n _ _ _).2, s2.trans (toksA_n _ _ _).1⟩
      · rintro k ⟨h1, h2⟩
        simp only [Rng] at h2 ⊢
        exact ⟨⟨h1, by omega⟩, by omega⟩
      · cases j with
        | zero =>
          obtain rfl := Option.some.inj hj
          refine ⟨fun k hk => ?_, v, rfl, (h4 en1 f c1).env (fun b o h => by rw [e2.K]; exact h) fun k hk => e2.VT k fun h => ?_⟩
          · have := name_men hk; simp only [Rng] at this ⊢; omega
          · have := name_men hk; simp only [Rng] at this h; omega
        | succ j =>
          obtain ⟨q1, u, q2, q3⟩ := v2 j y hj
          exact ⟨fun k hk => by have := q1 k hk; simp only [Rng] at this ⊢; omega, u, q2, q3⟩
      · intro k hk
        simp only [Rng] at hk ⊢
        omega

/-- Boxes that had been given away come back. -/
theorem RelE.backB : ∀ {bs : List Nat} {xs : List (List ACell)} {Ls : List CS} {en : En} {st : St} {Fr : Nat → Prop} {f : Nat} (r : RelE en st Fr a w w0 W K0) (h : BRepL w en.K xs (bs.map en.FB) Ls) (hfit : Fits en st w0 W Ls)
    (hd : Ls.Pairwise fun F G => ∀ b o, F b o → ¬ G b o) (hfr : ∀ k, Rng f (cntL xs) k → Fr k) (hn : ∀ b ∈ bs, st.box b = none ∧ ¬ Fr b) (hdb : bs.Nodup),
    ∃ en', RelE en' (st.apps (bxUpds f bs xs)) (fun k => Fr k ∧ ¬ Rng f (cntL xs) k) a w w0 W K0 ∧ en'.FB = en.FB ∧ (∀ b o, en.K b o → en'.K b o) ∧ (∀ k, ¬ Rng f (cntL xs) k → en'.VT k = en.VT k) ∧ (st.apps (bxUpds f bs xs)).slot = st.slot
  | [], xs, Ls, en, st, Fr, f, r, h, hfit, hd, hfr, hn, hdb => by
    cases h
    exact ⟨en, r.fewer fun _ h => h.1, rfl, fun _ _ h => h, fun _ _ => rfl, rfl⟩
  | b :: bs, xs, Ls, en, st, Fr, f, r, h, hfit, hd, hfr, hn, hdb => by
    simp only [List.map_cons] at h
    cases h with
    | cons hh h1 h2 =>
      rename_i x arr T Fs xs Ls
      simp only [cntL] at hfr ⊢
      obtain ⟨p1, p2, p3⟩ := pw_append hd
      have q1 := List.pairwise_cons.1 p1
      have hfl := hfit.left
      obtain ⟨en1, r1, c1, f1, e1⟩ := r.addE (f := f) h1 (fun F hF => hfl F (List.mem_cons_of_mem _ hF)) q1.2 (fun k hk => hfr k ⟨hk.1, by have := hk.2; omega⟩)
      have hfit1 : Fits en1 (st.apps (toksA f x)) w0 W (blk (en.FB b) :: Ls) := e1.fit _ (fun F hF => by
          rcases List.mem_cons.1 hF with rfl | hF
          · exact hfl _ List.mem_cons_self
          · exact hfit.right F hF) (fun F hF G hG => by
          rcases List.mem_cons.1 hG with rfl | hG
          · exact apart_symm (q1.1 F hF)
          · exact p3 F (List.mem_cons_of_mem _ hF) G hG)
      obtain ⟨hnb, hfb⟩ := hn b List.mem_cons_self
      have hbox : (st.apps (toksA f x)).box b = none := by rw [(toksA_n x f st).2]; exact hnb
      have hfe : en1.FB b = en.FB b := by rw [f1]
      have r2 := r1.addBox (b := b) (cs := nameA f x) hbox (by rw [hfe]; exact ⟨arr, T, hh, by simpa using c1⟩) (by rw [hfe]; exact hfit1 _ List.mem_cons_self) (fun k hk => .inr fun hm => hk.2 (name_men hm)) (.inr fun h => hfb h.1)
      have h2' : BRepL w en1.K xs (bs.map en1.FB) Ls := by rw [e1.K, f1]; exact h2
      have hnd := List.nodup_cons.1 hdb
      obtain ⟨en2, r3, f3, k3, v3, s3⟩ := RelE.backB (f := f + cntA x) r2 h2' (fun F hF => by
          have hl := hfit1 F (List.mem_cons_of_mem _ hF)
          refine ⟨hl.k, fun b' cs h o hFo => ?_, hl.t, hl.a⟩
          have h' : upd (st.apps (toksA f x)).box b (some (nameA f x)) b' = some cs := h
          rw [upd_eq] at h'
          split at h'
          · rename_i e
            subst e
            exact p3 (blk (en.FB b')) List.mem_cons_self F hF _ o (by rw [hfe]; rfl) hFo
          · exact hl.b b' cs h' o hFo) p2
        (fun k hk => ⟨⟨hfr k ⟨by have := hk.1; omega, by have := hk.2; omega⟩, fun h => by have := h.2; have := hk.1; omega⟩, fun e => hfb (e ▸ hfr k ⟨by have := hk.1; omega, by have := hk.2; omega⟩)⟩)
        (fun b' hb' => by
          obtain ⟨q2, q3⟩ := hn b' (List.mem_cons_of_mem _ hb')
          refine ⟨?_, fun h => q3 h.1.1⟩
          have hne : b' ≠ b := fun e => hnd.1 (by rw [← e]; exact hb')
          show upd (st.apps (toksA f x)).box b (some (nameA f x)) b' = none
          rw [upd_ne _ _ _ hne, (toksA_n x f st).2]
          exact q2) hnd.2
      have hst : ((st.apps (toksA f x)).app (.box b (nameA f x))).apps (bxUpds (f + cntA x) bs xs) = st.apps (bxUpds f (b :: bs) (x :: xs)) := by simp only [bxUpds]; rw [apps_append]; rfl
      rw [hst] at r3 s3
      refine ⟨en2, r3.fewer ?_, f3.trans f1, fun b o h => k3 b o (by rw [e1.K]; exact h), fun k hk => ?_, s3.trans (toksA_n x f st).1⟩
      · rintro k ⟨h1, h2⟩
        simp only [Rng] at h2 ⊢
        exact ⟨⟨⟨h1, by omega⟩, fun e => hfb (e ▸ h1)⟩, by omega⟩
      · simp only [Rng] at hk
        rw [v3 k (by simp only [Rng]; omega)]
        exact e1.VT k (by simp only [Rng]; omega)

theorem filterMap_ne {its : List It} {g : It → Option Nat} (hn : (its.filterMap g).Nodup) {p q : Nat} {x y : It} {t : Nat} (hp : its[p]? = some x) (hq : its[q]? = some y) (hx : g x = some t) (hy : g y = some t) : p = q := by
  have hpw : List.Pairwise (· ≠ ·) (its.filterMap g) := hn
  rw [List.pairwise_filterMap] at hpw
  have hlp := (List.getElem?_eq_some_iff.1 hp)
  have hlq := (List.getElem?_eq_some_iff.1 hq)
  rcases Nat.lt_trichotomy p q with hlt | heq | hlt
  · have := List.pairwise_iff_getElem.1 hpw p q hlp.1 hlq.1 hlt t (by rw [hlp.2]; exact hx) t (by rw [hlq.2]; exact hy)
    exact absurd rfl this
  · exact heq
  · have := List.pairwise_iff_getElem.1 hpw q p hlq.1 hlp.1 hlt t (by rw [hlq.2]; exact hy) t (by rw [hlp.2]; exact hx)
    exact absurd rfl this

/-- What is handed over lies apart. -/
theorem RelE.handed (r : RelE en st Fr a w w0 W K0) {its : List It} (ht : (its.filterMap itT).Nodup) (hb : (its.filterMap itB).Nodup) (hts : ∀ t ∈ its.filterMap itT, ∃ q, st.tok t = some q) (hbs : ∀ b ∈ its.filterMap itB, ∃ cs, st.box b = some cs) :
    Good w en.K (its.map (itF en)) ∧ Fits en ((st.apps (kill (its.filterMap itT))).apps (offs (its.filterMap itB))) w0 W (its.map (itF en)) := by
  have mt : ∀ {t}, It.tk t ∈ its → ∃ q, st.tok t = some q := fun h => hts _ (List.mem_filterMap.2 ⟨_, h, rfl⟩)
  have mb : ∀ {b}, It.bx b ∈ its → ∃ cs, st.box b = some cs := fun h => hbs _ (List.mem_filterMap.2 ⟨_, h, rfl⟩)
  constructor
  · refine ⟨fun F hF b o h hk => ?_, ?_, r.kl⟩
    · obtain ⟨it, hit, rfl⟩ := List.mem_map.1 hF
      cases it with
      | no => exact h
      | tk t => obtain ⟨q, hq⟩ := mt hit; exact r.kt t q hq b o h hk
      | bx b' =>
        obtain ⟨cs, hcs⟩ := mb hit
        have e : b = en.FB b' := h
        subst e
        exact r.kb b' cs hcs o hk
    · rw [List.pairwise_map, List.pairwise_iff_getElem]
      intro i j hi hj hlt b o h1 h2
      have gi : its[i]? = some its[i] := List.getElem?_eq_getElem hi
      have gj : its[j]? = some its[j] := List.getElem?_eq_getElem hj
      have mi : its[i] ∈ its := List.getElem_mem hi
      have mj : its[j] ∈ its := List.getElem_mem hj
      generalize its[i] = x at *
      generalize its[j] = y at *
      cases x with
      | no => exact h1
      | tk t =>
        obtain ⟨q, hq⟩ := mt mi
        cases y with
        | no => exact h2
        | tk t' =>
          obtain ⟨q', hq'⟩ := mt mj
          by_cases e : t = t'
          · subst e
            have := filterMap_ne ht gi gj (t := t) rfl rfl
            omega
          · exact r.tt t t' q q' hq hq' e b o h1 h2
        | bx b' =>
          obtain ⟨cs, hcs⟩ := mb mj
          have e : b = en.FB b' := h2
          subst e
          exact r.bt b' t cs q hcs hq o h1
      | bx b1 =>
        obtain ⟨c1, hc1⟩ := mb mi
        have e : b = en.FB b1 := h1
        subst e
        cases y with
        | no => exact h2
        | tk t' =>
          obtain ⟨q', hq'⟩ := mt mj
          exact r.bt b1 t' c1 q' hc1 hq' o h2
        | bx b' =>
          obtain ⟨cs, hcs⟩ := mb mj
          by_cases e : b1 = b'
          · subst e
            have := filterMap_ne hb gi gj (t := b1) rfl rfl
            omega
          · exact r.bb b1 b' c1 cs hc1 hcs e h2
  · intro F hF
    obtain ⟨it, hit, rfl⟩ := List.mem_map.1 hF
    cases it with
    | no => exact ⟨fun _ _ h => h.elim, fun _ _ _ _ h => h, fun _ _ _ _ _ h => h.elim, fun _ _ h => h.elim⟩
    | tk t =>
      obtain ⟨q, hq⟩ := mt hit
      have hmem : t ∈ its.filterMap itT := List.mem_filterMap.2 ⟨_, hit, rfl⟩
      have h := r.loose hq _ hmem
      refine ⟨h.k, fun b cs hb' => ?_, fun t' q' h' => ?_, h.a⟩
      · rw [offs_box] at hb'
        split at hb'
        · cases hb'
        · exact h.b b cs hb'
      · rw [(offs_other _ _).2] at h'
        exact h.t t' q' h'
    | bx b =>
      obtain ⟨cs, hcs⟩ := mb hit
      have hmem : b ∈ its.filterMap itB := List.mem_filterMap.2 ⟨_, hit, rfl⟩
      refine ⟨fun b' o h hk => ?_, fun b' cs' hb' o h => ?_, fun t q h' b' o h hf => ?_, fun b' o h => ?_⟩
      · have e : b' = en.FB b := h
        subst e; exact r.kb b cs hcs o hk
      · rw [offs_box] at hb'
        split at hb'
        · cases hb'
        · rename_i hne
          rw [kill_box] at hb'
          exact r.bb b' b cs' cs hb' hcs (fun e => hne (e ▸ hmem)) h
      · have e : b' = en.FB b := h
        subst e
        rw [(offs_other _ _).2] at h'
        exact r.bt b t cs q hcs (kill_some h').2 o hf
      · have e : b' = en.FB b := h
        subst e; exact r.ba b cs hcs o

end
end Go.Gl
