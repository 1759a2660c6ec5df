/- The state in which a call begins. -/
import Derived.Test.YtfkeggikdeenbaaL24
set_option linter.unusedVariables false
set_option linter.unusedSimpArgs false
namespace Go.Gl
open Go.RowKit

def apartL (Us Ls : List CS) : Prop := ∀ F ∈ Us, ∀ G ∈ Ls, ∀ b o, F b o → ¬ G b o

/-- How the names' places have changed while something came in. -/
structure Ext (en en' : En) (st st' : St) (w0 : World) (W : CS) (A : Nat → Prop) (Us : List CS) : Prop where
  K : en'.K = en.K
  FB : ∀ k, ¬ A k → en'.FB k = en.FB k
  VT : ∀ k, ¬ A k → en'.VT k = en.VT k
  fit : ∀ Ls, Fits en st w0 W Ls → apartL Us Ls → Fits en' st' w0 W Ls

theorem Ext.refl (en : En) (st : St) (w0 : World) (W : CS) (A : Nat → Prop) : Ext en en st st w0 W A [] := ⟨rfl, fun _ _ => rfl, fun _ _ => rfl, fun _ h _ => h⟩

theorem Ext.trans {en en1 en2 : En} {st st1 st2 : St} {w0 : World} {W : CS} {A B Cc : Nat → Prop} {Us Vs : List CS} (h : Ext en en1 st st1 w0 W A Us) (h' : Ext en1 en2 st1 st2 w0 W B Vs) (hA : ∀ k, ¬ Cc k → ¬ A k ∧ ¬ B k) : Ext en en2 st st2 w0 W Cc (Us ++ Vs) where
  K := h'.K.trans h.K
  FB k hk := (h'.FB k (hA k hk).2).trans (h.FB k (hA k hk).1)
  VT k hk := (h'.VT k (hA k hk).2).trans (h.VT k (hA k hk).1)
  fit Ls hL ha := h'.fit Ls (h.fit Ls hL fun F hF => ha F (List.mem_append_left _ hF)) fun F hF => ha F (List.mem_append_right _ hF)

theorem apart_symm {F G : CS} (h : ∀ b o, F b o → ¬ G b o) : ∀ b o, G b o → ¬ F b o := fun b o hg hf => h b o hf hg

theorem pw_append {Us Vs : List CS} (h : (Us ++ Vs).Pairwise fun F G => ∀ b o, F b o → ¬ G b o) : (Us.Pairwise fun F G => ∀ b o, F b o → ¬ G b o) ∧ (Vs.Pairwise fun F G => ∀ b o, F b o → ¬ G b o) ∧ apartL Us Vs := by
  obtain ⟨h1, h2, h3⟩ := List.pairwise_append.1 h
  exact ⟨h1, h2, h3⟩

section
variable {P : Program} {en : En} {st : St} {Fr : Nat → Prop} {a : Act} {w w' w0 : World} {W X : CS} {K0 : Kb} {o : Oper} {f : Nat}

theorem Fits.left {Us Vs : List CS} (h : Fits en st w0 W (Us ++ Vs)) : Fits en st w0 W Us := fun F hF => h F (List.mem_append_left _ hF)
theorem Fits.right {Us Vs : List CS} (h : Fits en st w0 W (Us ++ Vs)) : Fits en st w0 W Vs := fun F hF => h F (List.mem_append_right _ hF)

theorem RelE.addE (r : RelE en st Fr a w w0 W K0) {cs : List ACell} {us : List Value} {Fs : List CS} (h : ARepL w en.K cs us Fs) (hfit : Fits en st w0 W Fs) (hd : Fs.Pairwise fun F G => ∀ b o, F b o → ¬ G b o) (hfr : ∀ k, Rng f (cntA cs) k → Fr k) :
    ∃ en', RelE en' (st.apps (toksA f cs)) (fun k => Fr k ∧ ¬ Rng f (cntA cs) k) a w w0 W K0 ∧ CellsRep w en' (nameA f cs) us.toArray ∧ en'.FB = en.FB ∧ Ext en en' st (st.apps (toksA f cs)) w0 W (Rng f (cntA cs)) Fs := by
  obtain ⟨en', q1, q2, q3, q4, q5, q6⟩ := r.addA h hfit hd hfr
  exact ⟨en', q1, q2, q4, q3, fun k _ => by rw [q4], fun k hk => (q5 k hk).2, fun Ls h1 h2 => q6 Ls h1 fun F hF G hG => h2 F hF G hG⟩

/-- A new box comes in, with what its cells own. -/
theorem RelE.addB (r : RelE en st Fr a w w0 W K0) {x : List ACell} {g b : Nat} {arr : Array Value} {T : TypeId} {Fs : List CS} (hh : w.heap[g]? = some (.cells arr T (0, 0))) (h : ARepL w en.K x arr.toList Fs) (hfit : Fits en st w0 W (blk g :: Fs)) (hd : (blk g :: Fs).Pairwise fun F G => ∀ b o, F b o → ¬ G b o)
    (hb : Fr b) (hfr : ∀ k, Rng f (cntA x) k → Fr k) (hbf : ¬ Rng f (cntA x) b) :
    ∃ en', RelE en' (st.apps (toksA f x ++ [.box b (nameA f x)])) (fun k => Fr k ∧ ¬ Rng f (cntA x) k ∧ k ≠ b) a w w0 W K0 ∧ en'.FB b = g ∧ Ext en en' st (st.apps (toksA f x ++ [.box b (nameA f x)])) w0 W (fun k => Rng f (cntA x) k ∨ k = b) (blk g :: Fs) := by
  rw [apps_append]
  have hd2 := List.pairwise_cons.1 hd
  obtain ⟨en1, r1, c1, f1, e1⟩ := r.addE h (fun F hF => hfit F (List.mem_cons_of_mem _ hF)) hd2.2 hfr
  have r2 := r1.setFB ⟨hb, hbf⟩ g
  have hbox : (st.apps (toksA f x)).box b = none := by rw [(toksA_n x f st).2]; exact r.free.box b hb
  have hfb : upd en1.FB b g b = g := upd_self _ _ _
  have loose : ∀ F, Loose en1 (st.apps (toksA f x)) w0 W F → Loose { en1 with FB := upd en1.FB b g } (st.apps (toksA f x)) w0 W F := fun F hF =>
    ⟨hF.k, fun b' cs h' o => by
      show ¬ F (upd en1.FB b g b') o
      rw [upd_ne _ _ _ (fun e => by rw [e, hbox] at h'; cases h')]
      exact hF.b b' cs h' o, hF.t, hF.a⟩
  have hl : Loose en1 (st.apps (toksA f x)) w0 W (blk g) := e1.fit [blk g] (fun F hF => by rw [List.mem_singleton.1 hF]; exact hfit _ List.mem_cons_self) (fun F hF G hG => by
    rw [List.mem_singleton.1 hG]; exact apart_symm (hd2.1 F hF)) _ (List.mem_singleton.2 rfl)
  have r3 := r2.addBox (b := b) (cs := nameA f x) hbox (by
      show BoxRep w _ (upd en1.FB b g b) _
      rw [hfb]
      have c1' : CellsRep w en1 (nameA f x) arr := by simpa using c1
      exact ⟨arr, T, hh, c1'.env (fun _ _ h => h) fun _ _ => rfl⟩)
    (by show Loose _ _ _ _ (blk (upd en1.FB b g b)); rw [hfb]; exact loose _ hl)
    (fun k hk => .inr fun hm => hk.2 (name_men hm)) (.inl fun hm => hbf (name_men hm))
  refine ⟨_, r3.fewer fun k hk => ⟨⟨hk.1, hk.2.1⟩, hk.2.2⟩, hfb, e1.K, fun k hk => ?_, fun k hk => ?_, fun Ls hL ha => ?_⟩
  · exact (upd_ne _ _ _ fun e => hk (.inr e)).trans (e1.FB k fun h => hk (.inl h))
  · exact e1.VT k fun h => hk (.inl h)
  · have h1 := e1.fit Ls hL fun F hF => ha F (List.mem_cons_of_mem _ hF)
    intro G hG
    have h2 := loose G (h1 G hG)
    refine ⟨h2.k, fun b' cs h' o hGo => ?_, h2.t, h2.a⟩
    have h' : upd (st.apps (toksA f x)).box b (some (nameA f x)) b' = some cs := h'
    rw [upd_eq] at h'
    split at h'
    · rename_i e
      subst e
      have hGo' : G (upd en1.FB b' g b') o := hGo
      rw [upd_self] at hGo'
      exact ha (blk g) List.mem_cons_self G hG g o rfl hGo'
    · exact h2.b b' cs h' o hGo

theorem natsFrom_len : ∀ (n b : Nat), (natsFrom b n).length = n
  | 0, _ => rfl
  | n + 1, b => by simp [natsFrom, natsFrom_len n]

theorem natsFrom_mem : ∀ {n b k : Nat}, k ∈ natsFrom b n → Rng b n k
  | 0, _, _, h => by cases h
  | n + 1, b, k, h => by
    simp only [Rng]
    rcases List.mem_cons.1 h with rfl | h
    · omega
    · have := natsFrom_mem h
      simp only [Rng] at this
      omega

theorem RelE.addCaps : ∀ {xs : List (List ACell)} {gs : List Nat} {Ls : List CS} {en : En} {st : St} {Fr : Nat → Prop} {nb nt : Nat} (r : RelE en st Fr a w w0 W K0) (h : BRepL w en.K xs gs Ls) (hfit : Fits en st w0 W Ls)
    (hd : Ls.Pairwise fun F G => ∀ b o, F b o → ¬ G b o) (hb : ∀ k, Rng nb xs.length k → Fr k) (ht : ∀ k, Rng nt (cntL xs) k → Fr k) (hnn : nb + xs.length ≤ nt),
    ∃ en', RelE en' (st.apps (capUpds nb nt xs)) (fun k => Fr k ∧ ¬ Rng nb xs.length k ∧ ¬ Rng nt (cntL xs) k) a w w0 W K0 ∧ (natsFrom nb xs.length).map en'.FB = gs ∧
      Ext en en' st (st.apps (capUpds nb nt xs)) w0 W (fun k => Rng nb xs.length k ∨ Rng nt (cntL xs) k) Ls
  | [], gs, Ls, en, st, Fr, nb, nt, r, h, hfit, hd, hb, ht, hnn => by
    cases h
    exact ⟨en, r.fewer fun _ h => h.1, rfl, .refl _ _ _ _ _⟩
  | x :: xs, gs, Ls, en, st, Fr, nb, nt, r, h, hfit, hd, hb, ht, hnn => by
    cases h with
    | cons hh h1 h2 =>
      rename_i g arr T Fs gs Ls
      simp only [List.length_cons] at hnn hb ⊢
      simp only [cntL] at ht ⊢
      obtain ⟨p1, p2, p3⟩ := pw_append hd
      obtain ⟨en1, r1, f1, e1⟩ := r.addB (f := nt) (b := nb) hh h1 hfit.left p1 (hb nb ⟨Nat.le_refl _, by omega⟩) (fun k hk => ht k ⟨hk.1, by have := hk.2; omega⟩) (fun h => by have := h.1; omega)
      have h2' : BRepL w en1.K xs gs Ls := by rw [e1.K]; exact h2
      obtain ⟨en2, r2, f2, e2⟩ := RelE.addCaps (nb := nb + 1) (nt := nt + cntA x) r1 h2' (e1.fit Ls hfit.right p3) p2
        (fun k hk => ⟨hb k ⟨by have := hk.1; omega, by have := hk.2; omega⟩, fun h => by have := h.1; have := hk.2; omega, fun e => by have := hk.1; omega⟩)
        (fun k hk => ⟨ht k ⟨by have := hk.1; omega, by have := hk.2; omega⟩, fun h => by have := h.2; have := hk.1; omega, fun e => by have := hk.1; omega⟩) (by omega)
      have hst : (st.apps (toksA nt x ++ [.box nb (nameA nt x)])).apps (capUpds (nb + 1) (nt + cntA x) xs) = st.apps (capUpds nb nt (x :: xs)) := by
        rw [← apps_append]; simp [capUpds]
      rw [hst] at r2 e2
      refine ⟨en2, r2.fewer ?_, ?_, e1.trans e2 ?_⟩
      · rintro k ⟨h1, h2, h3⟩
        simp only [Rng] at h2 h3 ⊢
        exact ⟨⟨h1, by omega, by omega⟩, by omega, by omega⟩
      · simp only [natsFrom, List.map_cons, f2]
        congr 1
        rw [e2.FB nb (by simp only [Rng]; omega)]
        exact f1
      · intro k hk
        simp only [Rng] at hk ⊢
        omega

theorem AVal.cells {K : CS} {b : Bool} {cs : List ACell} {v : Value} {Fs : List CS} (h : AVal w K b cs v Fs) : ∃ us, ARepL w K cs us Fs ∧ ∀ (en' : En) (f : Nat), CellsRep w en' (nameA f cs) us.toArray → ValRep w en' b (nameA f cs) v := by
  cases h with
  | one h =>
    rename_i c F
    refine ⟨[v], .cons h .nil, fun en' f hc => ?_⟩
    have hn : ∃ c', nameA f [c] = [c'] := by cases c <;> exact ⟨_, rfl⟩
    obtain ⟨c', hn⟩ := hn
    rw [hn] at hc ⊢
    obtain ⟨u, h1, h2⟩ := hc.2 0 c' rfl
    obtain rfl : v = u := by simpa using h1
    exact .one h2
  | agg h =>
    rename_i arr
    exact ⟨arr.toList, h, fun en' f hc => .agg (by simpa using hc)⟩

theorem RelE.addArgs : ∀ {as : List Arg} {vs : List Value} {gs : List Nat} {Ls : List CS} {en : En} {st : St} {Fr : Nat → Prop} {i nb nt : Nat} (r : RelE en st Fr a w w0 W K0) (h : InRep w en.K as vs gs Ls) (hfit : Fits en st w0 W Ls)
    (hd : Ls.Pairwise fun F G => ∀ b o, F b o → ¬ G b o) (hb : ∀ k, Rng nb (argBoxes as) k → Fr k) (ht : ∀ k, Rng nt (argToks as) k → Fr k) (hnn : nb + argBoxes as ≤ nt) (hv : ∀ (j : Nat) (v : Value), vs[j]? = some v → a.tmps.getD (i + j) undef = v),
    ∃ en', RelE en' (st.apps (argUpds i nb nt as)) (fun k => Fr k ∧ ¬ Rng nb (argBoxes as) k ∧ ¬ Rng nt (argToks as) k) a w w0 W K0 ∧ (natsFrom nb (argBoxes as)).map en'.FB = gs ∧
      Ext en en' st (st.apps (argUpds i nb nt as)) w0 W (fun k => Rng nb (argBoxes as) k ∨ Rng nt (argToks as) k) Ls
  | [], vs, gs, Ls, en, st, Fr, i, nb, nt, r, h, hfit, hd, hb, ht, hnn, hv => by
    cases h
    exact ⟨en, r.fewer fun _ h => h.1, rfl, .refl _ _ _ _ _⟩
  | .val b x :: as, vs, gs, Ls, en, st, Fr, i, nb, nt, r, h, hfit, hd, hb, ht, hnn, hv => by
    cases h with
    | val h1 h2 =>
      rename_i v Fs vs Ls
      simp only [argBoxes] at hb hnn ⊢
      simp only [argToks] at ht ⊢
      obtain ⟨p1, p2, p3⟩ := pw_append hd
      obtain ⟨us, h3, h4⟩ := h1.cells
      obtain ⟨en1, r1, c1, f1, e1⟩ := r.addE (f := nt) h3 hfit.left p1 (fun k hk => ht k ⟨hk.1, by have := hk.2; omega⟩)
      have r2 := r1.tellSlot (i := i) (s := .v b (nameA nt x)) (by have h0 := hv 0 v rfl; rw [Nat.add_zero] at h0; rw [h0]; exact .v (h4 en1 nt c1)) (fun k hk hm => hk.2 (name_men hm))
      have e1' : Ext en en1 st ((st.apps (toksA nt x)).app (.slot i (.v b (nameA nt x)))) w0 W (Rng nt (cntA x)) Fs := ⟨e1.K, e1.FB, e1.VT, fun Ls h ha G hG => let l := e1.fit Ls h ha G hG; ⟨l.k, l.b, l.t, l.a⟩⟩
      have h2' : InRep w en1.K as vs gs Ls := by rw [e1.K]; exact h2
      obtain ⟨en2, r3, f3, e3⟩ := RelE.addArgs (i := i + 1) (nb := nb) (nt := nt + cntA x) r2 h2' (e1'.fit Ls hfit.right p3) p2
        (fun k hk => ⟨hb k hk, fun h => by have := h.1; have := hk.2; omega⟩)
        (fun k hk => ⟨ht k ⟨by have := hk.1; omega, by have := hk.2; omega⟩, fun h => by have := h.2; have := hk.1; omega⟩) (by omega) (fun j u hj => by
          have := hv (j + 1) u hj
          rw [show i + 1 + j = i + (j + 1) by omega]; exact this)
      have hst : ((st.apps (toksA nt x)).app (.slot i (.v b (nameA nt x)))).apps (argUpds (i + 1) nb (nt + cntA x) as) = st.apps (argUpds i nb nt (.val b x :: as)) := by
        simp only [argUpds]; rw [apps_append]; rfl
      rw [hst] at r3 e3
      refine ⟨en2, r3.fewer ?_, f3, e1'.trans e3 ?_⟩
      · rintro k ⟨h1, h2, h3⟩
        simp only [Rng] at h2 h3 ⊢
        exact ⟨⟨h1, by omega⟩, by omega, by omega⟩
      · intro k hk
        simp only [Rng] at hk ⊢
        omega
  | .box x :: as, vs, gs, Ls, en, st, Fr, i, nb, nt, r, h, hfit, hd, hb, ht, hnn, hv => by
    cases h with
    | box h1 h2 =>
      rename_i g Fs vs gs Ls
      simp only [argBoxes] at hb hnn ⊢
      simp only [argToks] at ht ⊢
      obtain ⟨p1, p2, p3⟩ := pw_append hd
      have hcap : ∃ arr T Fs', w.heap[g]? = some (.cells arr T (0, 0)) ∧ ARepL w en.K x arr.toList Fs' ∧ Fs = blk g :: Fs' := by
        cases h1 with
        | cons hh h t =>
          cases t
          exact ⟨_, _, _, hh, h, by simp⟩
      obtain ⟨arr, T, Fs', hh, h3, rfl⟩ := hcap
      obtain ⟨en1, r1, f1, e1⟩ := r.addB (f := nt) (b := nb) hh h3 hfit.left p1 (hb nb ⟨Nat.le_refl _, by omega⟩) (fun k hk => ht k ⟨hk.1, by have := hk.2; omega⟩) (fun h => by have := h.1; omega)
      have r2 := r1.tellSlot (i := i) (s := .lp nb 0) (by
        have := hv 0 _ rfl
        rw [Nat.add_zero] at this
        rw [this, ← f1]; exact .lp) (fun k hk hm => hk.2.2 (show k = nb from Eq.symm hm))
      have e1' : Ext en en1 st ((st.apps (toksA nt x ++ [.box nb (nameA nt x)])).app (.slot i (.lp nb 0))) w0 W (fun k => Rng nt (cntA x) k ∨ k = nb) (blk g :: Fs') := ⟨e1.K, e1.FB, e1.VT, fun Ls h ha G hG => let l := e1.fit Ls h ha G hG; ⟨l.k, l.b, l.t, l.a⟩⟩
      have h2' : InRep w en1.K as vs gs Ls := by rw [e1.K]; exact h2
      obtain ⟨en2, r3, f3, e3⟩ := RelE.addArgs (i := i + 1) (nb := nb + 1) (nt := nt + cntA x) r2 h2' (e1'.fit Ls hfit.right p3) p2
        (fun k hk => ⟨hb k ⟨by have := hk.1; omega, by have := hk.2; omega⟩, fun h => by have := h.1; have := hk.2; omega, fun e => by have := hk.1; omega⟩)
        (fun k hk => ⟨ht k ⟨by have := hk.1; omega, by have := hk.2; omega⟩, fun h => by have := h.2; have := hk.1; omega, fun e => by have := hk.1; omega⟩) (by omega) (fun j u hj => by
          have := hv (j + 1) u hj
          rw [show i + 1 + j = i + (j + 1) by omega]; exact this)
      have hst : ((st.apps (toksA nt x ++ [.box nb (nameA nt x)])).app (.slot i (.lp nb 0))).apps (argUpds (i + 1) (nb + 1) (nt + cntA x) as) = st.apps (argUpds i nb nt (.box x :: as)) := by
        simp only [argUpds]; rw [apps_append, apps_append]; rfl
      rw [hst] at r3 e3
      refine ⟨en2, r3.fewer ?_, ?_, e1'.trans e3 ?_⟩
      · rintro k ⟨h1, h2, h3⟩
        simp only [Rng] at h2 h3 ⊢
        exact ⟨⟨h1, by omega, by omega⟩, by omega, by omega⟩
      · simp only [natsFrom, List.map_cons, f3]
        congr 1
        rw [e3.FB nb (by simp only [Rng]; omega)]
        exact f1
      · intro k hk
        simp only [Rng] at hk ⊢
        omega
  | .fn g0 caps :: as, vs, gs, Ls, en, st, Fr, i, nb, nt, r, h, hfit, hd, hb, ht, hnn, hv => by
    cases h with
    | fn h1 h2 =>
      rename_i hs Fs vs gs Ls
      simp only [argBoxes] at hb hnn ⊢
      simp only [argToks] at ht ⊢
      obtain ⟨p1, p2, p3⟩ := pw_append hd
      obtain ⟨en1, r1, f1, e1⟩ := r.addCaps (nb := nb) (nt := nt) h1 hfit.left p1 (fun k hk => hb k ⟨hk.1, by have := hk.2; omega⟩) (fun k hk => ht k ⟨hk.1, by have := hk.2; omega⟩) (by omega)
      have r2 := r1.tellSlot (i := i) (s := .fn g0 (natsFrom nb caps.length)) (by
        have := hv 0 _ rfl
        rw [Nat.add_zero] at this
        rw [this, ← f1]
        have e : ptrs ((natsFrom nb caps.length).map en1.FB) = ((natsFrom nb caps.length).map fun b => Value.pointer (some ⟨en1.FB b, 0, none⟩)).toArray := by simp [ptrs]
        rw [e]; exact .fn) (fun k hk hm => hk.2.1 (natsFrom_mem hm))
      have e1' : Ext en en1 st ((st.apps (capUpds nb nt caps)).app (.slot i (.fn g0 (natsFrom nb caps.length)))) w0 W (fun k => Rng nb caps.length k ∨ Rng nt (cntL caps) k) Fs := ⟨e1.K, e1.FB, e1.VT, fun Ls h ha G hG => let l := e1.fit Ls h ha G hG; ⟨l.k, l.b, l.t, l.a⟩⟩
      have h2' : InRep w en1.K as vs gs Ls := by rw [e1.K]; exact h2
      obtain ⟨en2, r3, f3, e3⟩ := RelE.addArgs (i := i + 1) (nb := nb + caps.length) (nt := nt + cntL caps) r2 h2' (e1'.fit Ls hfit.right p3) p2
        (fun k hk => ⟨hb k ⟨by have := hk.1; omega, by have := hk.2; omega⟩, fun h => by have := h.2; have := hk.1; omega, fun h => by have := h.1; have := hk.2; omega⟩)
        (fun k hk => ⟨ht k ⟨by have := hk.1; omega, by have := hk.2; omega⟩, fun h => by have := h.2; have := hk.1; omega, fun h => by have := h.2; have := hk.1; omega⟩) (by omega) (fun j u hj => by
          have := hv (j + 1) u hj
          rw [show i + 1 + j = i + (j + 1) by omega]; exact this)
      have hst : ((st.apps (capUpds nb nt caps)).app (.slot i (.fn g0 (natsFrom nb caps.length)))).apps (argUpds (i + 1) (nb + caps.length) (nt + cntL caps) as) = st.apps (argUpds i nb nt (.fn g0 caps :: as)) := by
        simp only [argUpds]; rw [apps_append]; rfl
      rw [hst] at r3 e3
      have nsplit : ∀ (n m b : Nat), natsFrom b (n + m) = natsFrom b n ++ natsFrom (b + n) m := by
        intro n
        induction n with
        | zero => intro m b; simp [natsFrom]
        | succ n ih =>
          intro m b
          rw [show n + 1 + m = (n + m) + 1 by omega]
          simp only [natsFrom, ih, List.cons_append]
          rw [show b + 1 + n = b + (n + 1) by omega]
      refine ⟨en2, r3.fewer ?_, ?_, e1'.trans e3 ?_⟩
      · rintro k ⟨h1, h2, h3⟩
        simp only [Rng] at h2 h3 ⊢
        exact ⟨⟨h1, by omega, by omega⟩, by omega, by omega⟩
      · rw [nsplit, List.map_append, f3]
        congr 1
        rw [← f1]
        apply List.map_congr_left
        intro k hk
        have := natsFrom_mem hk
        exact e3.FB k (by simp only [Rng] at this ⊢; omega)
      · intro k hk
        simp only [Rng] at hk ⊢
        omega

/-- The state in which a call begins tells its arguments. -/
theorem init_rel {as : List Arg} {vs : List Value} {gs : List Nat} {Ls : List CS} {K : CS} (h : InRep w K as vs gs Ls) (hg : Good w K Ls) {n : Nat} {tmps : Array Value} (hn : tmps.size = n) (hv : ∀ (j : Nat) (v : Value), vs[j]? = some v → tmps.getD j undef = v) (hb : argBoxes as ≤ 500) (ht : argToks as ≤ 500) :
    ∃ (en : En) (G : Nat → Nat), RelE en (initSt as n) (fun k => 1000 ≤ k) ⟨tmps, []⟩ w w (uni Ls) ⟨K, argBoxes as, G, by omega⟩ ∧ (natsFrom 0 (argBoxes as)).map G = gs := by
  have r0 : RelE ⟨K, fun _ => 0, fun _ _ _ => False, fun _ => undef⟩ (St.of [] [] [] 1000 n) (fun _ => True) ⟨tmps, []⟩ w w (uni Ls) ⟨K, 0, fun _ => 0, Nat.zero_le _⟩ := {
    free := ⟨fun i _ s => (fun h => h), fun i _ => rfl, fun i _ => rfl, fun i _ b cs h => by cases h⟩
    size := hn
    defers := rfl
    slots := fun s => .any
    boxes := fun b cs h => by cases h
    toks := fun t q h => by cases h
    bb := fun b b' cs cs' h => by cases h
    bt := fun b t cs tk h => by cases h
    tt := fun t t' q q' h => by cases h
    kb := fun b cs h => by cases h
    kt := fun t q h => by cases h
    ks := fun b o h => .inl h
    kl := hg.lt
    ba := fun b cs h => by cases h
    ta := fun t q h => by cases h
    un := .refl _ _
    fb := fun _ h => (Nat.not_lt_zero _ h).elim }
  obtain ⟨en, r1, f1, e1⟩ := r0.addArgs (i := 0) (nb := 0) (nt := 500) h (fun F hF => ⟨hg.k F hF, fun b cs h => (nomatch h), fun t q h => (nomatch h), fun b o hb => .inr ⟨F, hF, hb⟩⟩) hg.d (fun _ _ => trivial) (fun _ _ => trivial) (by omega)
    (fun j v hj => by rw [Nat.zero_add]; exact hv j v hj)
  have r2 : RelE en (initSt as n) (fun k => 1000 ≤ k) ⟨tmps, []⟩ w w (uni Ls) _ := r1.fewer fun k hk => ⟨trivial, fun h => by have := h.2; omega, fun h => by have := h.2; omega⟩
  exact ⟨en, en.FB, { r2 with fb := fun b hb' => ⟨rfl, fun h => by have hb' : b < argBoxes as := hb'; omega⟩ }, f1⟩

end
end Go.Gl
