/- Regions whose order is drawn. -/
import Derived.Test.YtfkeggikdeenbaaL32
set_option linter.unusedVariables false
set_option linter.unusedSimpArgs false
namespace Go.Gl
open Go.RowKit

section
variable {ops : List Oper} {o : Oper} {s s' : St} {f : Nat} {ks : List Nat} {us : List Upd} {cx : Cx} {base : Nat} {m : List (Nat × Nat)}

theorem split_mono {Φ Φ' : St → Prop} (hm : ∀ t, Φ t → Φ' t) (h : splitOn o s Φ) : splitOn o s Φ' := by
  unfold splitOn at h ⊢
  split at h
  · split at h
    · exact ⟨fun e => hm _ (h.1 e), fun e => hm _ (h.2 e)⟩
    · exact h.elim
  · exact h.elim

theorem step_mono {chk : List Upd → Bool} {i : Nat} {Φ Φ' : St → Prop} (hm : ∀ t, Φ t → Φ' t) (h : oneStep cx chk ops i o f s Φ) : oneStep cx chk ops i o f s Φ' := by
  unfold oneStep at h ⊢
  have h2 : ∀ t, (bif isGuard ops i then splitOn o t Φ else Φ t) → (bif isGuard ops i then splitOn o t Φ' else Φ' t) := fun t ht => by
    cases hg : isGuard ops i with
    | true => rw [hg] at ht; exact split_mono hm ht
    | false => rw [hg] at ht; exact hm t ht
  split at h
  · unfold opStep at h ⊢
    cases hc : isCallOp o with
    | none =>
      rw [hc] at h
      simp only at h ⊢
      unfold detStep at h ⊢
      split at h
      · exact h.elim
      · obtain ⟨ds, h3, h4⟩ := exP_map h
        refine h4 _ ?_
        split at h3
        · split at h3
          · exact h2 _ h3
          · exact ⟨h3.1, h2 _ h3.2⟩
        · exact h3.elim
    | some c =>
      rw [hc] at h
      simp only at h ⊢
      unfold callStep at h ⊢
      split at h
      · split at h
        · split at h
          · split at h
            · refine C.mono h fun ds hds => pay_abs_mono (fun ds hk => ?_) hds
              split at hk
              · exact h2 _ hk
              · exact hk.elim
            · exact h.elim
          · exact h.elim
        · exact h.elim
      · exact h.elim
  · split at h
    · exact hm _ h
    · exact hm _ h
  · exact h.elim

theorem all_sub {α : Type} {l l' : List α} {p : α → Bool} (h : l'.all p = true) (hs : ∀ x ∈ l, x ∈ l') : l.all p = true :=
  List.all_eq_true.2 fun x hx => List.all_eq_true.1 h x (hs x hx)

theorem runD_mono {K : St → Prop} : ∀ {l : List Nat} {pre pre' : List (Nat × List Nat)} {st : St}, (∀ x ∈ pre, x ∈ pre') → runD cx ops base m pre' l st K → runD cx ops base m pre l st K
  | [], _, _, _, _, h => h
  | j :: l, pre, pre', st, hs, h => by
    unfold runD at h ⊢
    split at h
    · exact h.elim
    · split at h
      · rename_i hc
        rw [all_sub hc hs]
        exact step_mono (fun t ht => runD_mono (fun x hx => by
          rcases List.mem_cons.1 hx with rfl | hx
          · exact List.mem_cons_self
          · exact List.mem_cons_of_mem _ (hs x hx)) ht) h
      · exact h.elim

def checkD (ops : List Oper) (base : Nat) (m : List (Nat × Nat)) (pre : List (Nat × List Nat)) (j : Nat) (o : Oper) (st : St) : Bool :=
  pre.all fun p => Nat.testBit (maskOf m j) p.1 || pairOk ops base p j o (opKeys o st)

theorem notIn_spec {d : Option Nat} {l : List Nat} (h : notIn d l = true) : ∀ t ∈ l, d ≠ some t := by
  intro t ht e
  subst e
  exact elem_false h ht

theorem otherD_spec {d e : Option Nat} (h : otherD d e = true) : ∀ t, d ≠ some t ∨ e ≠ some t := by
  intro t
  by_cases h1 : d = some t
  · by_cases h2 : e = some t
    · rw [h1, h2] at h
      simp [otherD] at h
    · exact .inr h2
  · exact .inl h1

theorem rng_ne {base i j k : Nat} (hij : i ≠ j) (h : Rng (base + 16 * i) 16 k) : ¬ Rng (base + 16 * j) 16 k := by
  intro h'
  simp only [Rng] at h h'
  omega

theorem inRng {f k : Nat} (h : (!(Nat.ble f k && Nat.blt k (f + 16))) = true) : ¬ Rng f 16 k := by
  rintro ⟨h1, h2⟩
  have e1 : Nat.ble f k = true := Nat.ble_eq_true_of_le h1
  have e2 : Nat.blt k (f + 16) = true := Nat.ble_eq_true_of_le h2
  rw [e1, e2] at h
  cases h

theorem bubble {j : Nat} {oj : Oper} {K : St → Prop} (hj : ops[j]? = some oj) : ∀ {l1 l2 : List Nat} {pre : List (Nat × List Nat)} {st : St}, runD cx ops base m pre (l1 ++ j :: l2) st K → (∀ i ∈ l1, i ≠ j ∧ Nat.testBit (maskOf m j) i = false ∧ ∀ oi, ops[i]? = some oi → isCallOp oi = none) →
    checkD ops base m pre j oj st = true ∧ oneStep cx (okU oj (base + 16 * j) (opKeys oj st)) ops j oj (base + 16 * j) st fun st' => runD cx ops base m pre (l1 ++ l2) st' K
  | [], l2, pre, st, h, _ => by
    simp only [List.nil_append] at h ⊢
    unfold runD at h
    rw [hj] at h
    simp only at h
    split at h
    · rename_i hc
      exact ⟨hc, step_mono (fun t ht => runD_mono (fun x hx => List.mem_cons_of_mem _ hx) ht) h⟩
    · exact h.elim
  | i :: l1, l2, pre, st, h, hi => by
    simp only [List.cons_append] at h ⊢
    unfold runD at h
    split at h
    · exact h.elim
    · rename_i oi hoi
      split at h
      case h_2 => exact h.elim
      rename_i hci
      obtain ⟨hne, hbit, hcall⟩ := hi i List.mem_cons_self
      have hnc := hcall oi hoi
      have h1 := step_mono (fun t ht => bubble hj ht fun i' hi' => hi i' (List.mem_cons_of_mem _ hi')) h
      obtain ⟨us, hu, ⟨hck, hst⟩, hrep⟩ := step_norm hnc h1
      unfold checkD at hck
      rw [List.all_cons, Bool.and_eq_true] at hck
      obtain ⟨hp, hck⟩ := hck
      simp only [hbit, Bool.false_or] at hp
      unfold pairOk at hp
      simp only [hoi, hnc, Bool.true_and, Bool.and_eq_true] at hp
      obtain ⟨p1, p2, p3, p4⟩ := hp
      obtain ⟨k1, k2⟩ := okU_keep (s := st) hu
      -- what i spares, what j spares
      have hdis : (pureOp oi = true ∧ pureOp oj = true) ∨ ((∀ k ∈ opKeys oj (st.apps us), k ∉ opKeys oi st ∧ ¬ Rng (base + 16 * i) 16 k) ∧ ∀ k ∈ opKeys oi st, ¬ Rng (base + 16 * j) 16 k) := by
        rw [Bool.or_eq_true, Bool.and_eq_true, Bool.and_eq_true] at p4
        rcases p4 with p4 | ⟨p4, p5⟩
        · exact .inl p4
        · refine .inr ⟨fun k hk => ?_, fun k hk => inRng (List.all_eq_true.1 p5 k hk)⟩
          have := List.all_eq_true.1 p4 k hk
          rw [Bool.and_eq_true] at this
          exact ⟨elem_false this.1, inRng this.2⟩
      have sp1 : ∀ k ∈ opKeys oj (st.apps us), spared oi (base + 16 * i) (opKeys oi st) k := fun k hk => by
        rcases hdis with h | h
        · exact .inl h.1
        · exact .inr (h.1 k hk)
      have sp2 : ∀ k ∈ opKeys oi st, spared oj (base + 16 * j) (opKeys oj (st.apps us)) k := fun k hk => by
        rcases hdis with h | h
        · exact .inl h.2
        · exact .inr ⟨fun hk' => (h.1 k hk').1 hk, h.2 k hk⟩
      have sp3 : ∀ k, spared oi (base + 16 * i) (opKeys oi st) k ∨ spared oj (base + 16 * j) (opKeys oj (st.apps us)) k := fun k => by
        by_cases h1 : k ∈ opKeys oi st
        · exact .inr (sp2 k h1)
        · by_cases h2 : Rng (base + 16 * i) 16 k
          · rcases hdis with h | h
            · exact .inl (.inl h.1)
            · exact .inr (.inr ⟨fun hk' => (h.1 k hk').2 h2, rng_ne hne h2⟩)
          · exact .inl (.inr ⟨h1, h2⟩)
      have hagr : Agr ops oj (st.apps us) st := ⟨fun t ht => k1 t (notIn_spec p1 t ht), fun d hd => k1 d ((otherD_spec p3 d).resolve_right fun h => h hd), fun k hk => k2 k (sp1 k hk)⟩
      have hkeys := hagr.keys
      have hfr := step_frame hst hagr
      refine ⟨?_, ?_⟩
      · unfold checkD
        rw [hkeys]; exact hck
      · rw [hkeys]
        refine step_mono (fun t ht => ?_) hfr
        obtain ⟨vs, hv, rfl, hΨ⟩ := ht
        obtain ⟨q1, q2⟩ := okU_keep (s := st) hv
        have hagr2 : Agr ops oi st (st.apps vs) := ⟨fun t ht => (q1 t (notIn_spec p2 t ht)).symm, fun d hd => (q1 d ((otherD_spec p3 d).resolve_left fun h => h hd)).symm, fun k hk => ⟨(q2 k (sp2 k hk)).1.symm, (q2 k (sp2 k hk)).2.symm⟩⟩
        show runD cx ops base m pre (i :: (l1 ++ l2)) (st.apps vs) K
        unfold runD
        rw [hoi]
        simp only
        rw [hagr2.keys, hci]
        simp only
        refine hrep _ _ hagr2 ?_
        rw [← apps_comm hu hv (otherD_spec p3) sp3]
        exact hΨ

end
end Go.Gl
