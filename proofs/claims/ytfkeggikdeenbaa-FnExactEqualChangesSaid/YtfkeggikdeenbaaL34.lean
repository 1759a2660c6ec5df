/- Regions whose order is drawn do what the logic's machine says of one order. -/
import Derived.Test.YtfkeggikdeenbaaL33
set_option linter.unusedVariables false
set_option linter.unusedSimpArgs false
namespace Go.Gl
open Go.RowKit

theorem dep_mem {o : Oper} {e : Edge} (he : e ∈ o.after) (hb : Region.binds .any e = true) : e.on ∈ depsOf o := by
  unfold depsOf
  refine List.mem_map.2 ⟨e, List.mem_filter.2 ⟨Array.mem_toList_iff.2 he, ?_⟩, rfl⟩
  unfold Region.binds at hb
  split at hb <;> simp_all

theorem mem_dep {o : Oper} {d : Nat} (h : d ∈ depsOf o) : ∃ e ∈ o.after, Region.binds .any e = true ∧ e.on = d := by
  unfold depsOf at h
  obtain ⟨e, he, rfl⟩ := List.mem_map.1 h
  obtain ⟨h1, h2⟩ := List.mem_filter.1 he
  refine ⟨e, Array.mem_toList_iff.1 h1, ?_, rfl⟩
  unfold Region.binds
  split <;> simp_all

theorem orAll_bit {m : Nat → Nat} {i : Nat} : ∀ {l : List Nat}, Nat.testBit (orAll m l) i = true → ∃ e ∈ l, i = e ∨ Nat.testBit (m e) i = true
  | [], h => by simp [orAll] at h
  | e :: r, h => by
    have h' : ((1 <<< e ||| m e) ||| orAll m r).testBit i = true := h
    rw [Nat.testBit_or, Nat.testBit_or, Bool.or_eq_true, Bool.or_eq_true] at h'
    rcases h' with (h' | h') | h'
    · refine ⟨e, List.mem_cons_self, .inl ?_⟩
      rw [Nat.one_shiftLeft, Nat.testBit_two_pow] at h'
      have := of_decide_eq_true h'
      exact this.symm
    · exact ⟨e, List.mem_cons_self, .inr h'⟩
    · obtain ⟨e', h1, h2⟩ := orAll_bit h'
      exact ⟨e', List.mem_cons_of_mem _ h1, h2⟩

section
variable {P : Program} {w0 : World} {W : CS} {K0 : Kb} {cx : Cx} {Kc : St → Prop} {ops : Array Oper} {base : Nat} {m : List (Nat × Nat)}

def callFree (ops : List Oper) (m : List (Nat × Nat)) (i j : Nat) : Prop := (∀ oi, ops[i]? = some oi → isCallOp oi = none) ∨ Nat.testBit (maskOf m j) i = true

def depFree (ops : List Oper) (i j : Nat) : Prop := ∀ oi, ops[i]? = some oi → j ∉ depsOf oi

theorem sound_any (st0 : St) (hdst : ∀ o ∈ ops.toList, ∀ d, o.dst = some d → d < st0.n) (hmask : ∀ (j : Nat) (o : Oper), ops[j]? = some o → ∀ i, Nat.testBit (maskOf m j) i = true → ∃ e ∈ depsOf o, i = e ∨ Nat.testBit (maskOf m e) i = true)
    (hself : ∀ (j : Nat) (o : Oper), ops[j]? = some o → j ∉ depsOf o) (hdep : ∀ (j : Nat) (o : Oper), ops[j]? = some o → ∀ d ∈ depsOf o, d < ops.size) : ∀ (fuel : Nat) {l : List Nat} {listed : Array Bool} {en : En} {st : St} {a : Act} {w : World} (r : RelE en st (Frg base ops.size l) a w w0 W K0)
    (hf : l.length ≤ fuel) (hl : l.Nodup) (hin : ∀ i ∈ l, i < ops.size) (hsz : listed.size = ops.size) (hli : ∀ i, i < ops.size → (listed.getD i false = true ↔ i ∉ l)) (hcl : ∀ j, j < ops.size → j ∉ l → ∀ i, Nat.testBit (maskOf m j) i = true → i ∉ l)
    (hcf : l.Pairwise (callFree ops.toList m)) (hdf : l.Pairwise (depFree ops.toList)) (hs : st.base = st0.base ∧ st.n = st0.n) (h : runD cx ops.toList base m [] l st Kc),
    wpAny cx.P .any ops (EndR base ops.size st0 w0 W K0 Kc) fuel listed a w := by
  intro fuel
  have hdone : ∀ {l : List Nat} {listed : Array Bool} {en : En} {st : St} {a : Act} {w : World}, RelE en st (Frg base ops.size l) a w w0 W K0 → l = [] → (st.base = st0.base ∧ st.n = st0.n) → runD cx ops.toList base m [] l st Kc → EndR base ops.size st0 w0 W K0 Kc .normal a w := by
    intro l listed en st a w r e hs h
    subst e
    exact ⟨rfl, st, en, r.fewer fun k hk => .inr hk, hs.1, hs.2, h⟩
  have hget : ∀ {listed : Array Bool} {i : Nat}, listed.size = ops.size → i < ops.size → listed.getD i true = listed.getD i false := by
    intro listed i h1 h2
    have : i < listed.size := by omega
    simp [Array.getD_eq_getD_getElem?, this]
  induction fuel with
  | zero =>
    intro l listed en st a w r hf hl hin hsz hli hcl hcf hdf hs h
    have e : l = [] := List.eq_nil_of_length_eq_zero (by omega)
    refine ⟨?_, hdone (listed := listed) r e hs h⟩
    apply List.eq_nil_iff_forall_not_mem.2
    intro j hj
    obtain ⟨h1, o, ho, _⟩ := mem_ready.1 hj
    have hjn : j < ops.size := (Array.getElem?_eq_some_iff.1 ho).1
    rw [hget hsz hjn] at h1
    have := (hli j hjn).2 (by rw [e]; simp)
    rw [this] at h1; cases h1
  | succ fuel ih =>
    intro l listed en st a w r hf hl hin hsz hli hcl hcf hdf hs h
    refine ⟨fun hr => ?_, fun j hj => ?_⟩
    · refine hdone (listed := listed) r ?_ hs h
      cases l with
      | nil => rfl
      | cons i l =>
        exfalso
        have hi := hin i List.mem_cons_self
        have hoi : ops[i]? = some ops[i] := Array.getElem?_eq_getElem hi
        have : i ∈ Region.ready .any ops listed := mem_ready.2 ⟨by
            rw [hget hsz hi]
            cases hb : listed.getD i false with
            | false => rfl
            | true => exact absurd List.mem_cons_self ((hli i hi).1 hb), _, hoi, fun e he hb => by
            have hd := dep_mem he hb
            have hen : e.on ∉ i :: l := fun hm => by
              rcases List.mem_cons.1 hm with hm | hm
              · exact hself i _ hoi (hm ▸ hd)
              · exact (List.pairwise_cons.1 hdf).1 e.on hm _ (by rw [Array.getElem?_toList]; exact hoi) hd
            exact (hli e.on (hdep i _ hoi e.on hd)).2 hen⟩
        rw [hr] at this; cases this
    · obtain ⟨h1, o, ho, hall⟩ := mem_ready.1 hj
      have hjn : j < ops.size := (Array.getElem?_eq_some_iff.1 ho).1
      rw [hget hsz hjn] at h1
      have hjl : j ∈ l := by
        by_cases hm : j ∈ l
        · exact hm
        · rw [(hli j hjn).2 hm] at h1; cases h1
      obtain ⟨l1, l2, rfl⟩ := List.append_of_mem hjl
      have ho' : ops.toList[j]? = some o := by rw [Array.getElem?_toList]; exact ho
      have hnd := List.nodup_append.1 hl
      have hb := bubble ho' h fun i hi => by
        have hij : i ≠ j := fun e => hnd.2.2 i hi j List.mem_cons_self e
        have hbit : Nat.testBit (maskOf m j) i = false := by
          cases hb : Nat.testBit (maskOf m j) i with
          | false => rfl
          | true =>
            exfalso
            obtain ⟨e, he, h2⟩ := hmask j o ho i hb
            obtain ⟨ed, h3, h4, rfl⟩ := mem_dep he
            have h5 := hall ed h3 h4
            have hlt : ed.on < ops.size := by
              rcases Nat.lt_or_ge ed.on listed.size with h' | h'
              · omega
              · simp [Array.getElem?_eq_none h'] at h5
            have h6 := (hli ed.on hlt).1 h5
            rcases h2 with rfl | h2
            · exact h6 (List.mem_append_left _ hi)
            · exact hcl ed.on hlt h6 i h2 (List.mem_append_left _ hi)
        refine ⟨hij, hbit, ?_⟩
        have := (List.pairwise_append.1 hcf).2.2 i hi j List.mem_cons_self
        rcases this with h | h
        · exact h
        · rw [hbit] at h; cases h
      have hsub : ∀ x, x ∈ l1 ++ l2 → x ∈ l1 ++ j :: l2 := fun x hx => by
        rcases List.mem_append.1 hx with hx | hx
        · exact List.mem_append_left _ hx
        · exact List.mem_append_right _ (List.mem_cons_of_mem _ hx)
      have hsl : (l1 ++ l2).Sublist (l1 ++ j :: l2) := List.Sublist.append (List.Sublist.refl _) (List.sublist_cons_self _ _)
      have hjnot : j ∉ l1 ++ l2 := fun hx => by
        rcases List.mem_append.1 hx with hx | hx
        · exact hnd.2.2 j hx j List.mem_cons_self rfl
        · exact (List.nodup_cons.1 hnd.2.1).1 hx
      have hmem : ∀ x, x ∈ l1 ++ j :: l2 → x ≠ j → x ∈ l1 ++ l2 := fun x hx hne => by
        rcases List.mem_append.1 hx with hx | hx
        · exact List.mem_append_left _ hx
        · rcases List.mem_cons.1 hx with hx | hx
          · exact absurd hx hne
          · exact List.mem_append_right _ hx
      refine wpOp_mono (fun a' w' hx => ?_) (sound_one ho r (fun d hd => by rw [hs.2]; exact hdst o (List.mem_of_getElem? ho') d hd) (fun k hk => .inl ⟨j, hjl, hk⟩) hb.2)
      obtain ⟨st', en', r', b1, n1, k1⟩ := hx
      refine ih (r'.fewer fun k hk => ?_) (by simp only [List.length_append, List.length_cons] at hf ⊢; omega) (hl.sublist hsl) (fun i hi => hin i (hsub i hi)) (by simpa using hsz) (fun i hi => ?_) (fun j' hj' hnj i hb' hi' => ?_) (hcf.sublist hsl) (hdf.sublist hsl) ⟨b1.trans hs.1, n1.trans hs.2⟩ k1
      · have := frg_cons hjnot hjn k hk
        refine ⟨?_, this.2⟩
        rcases this.1 with ⟨i, hi, h2⟩ | h2
        · refine .inl ⟨i, ?_, h2⟩
          rcases List.mem_cons.1 hi with rfl | hi
          · exact hjl
          · exact hsub i hi
        · exact .inr h2
      · by_cases e : j = i
        · subst e
          have : (listed.setIfInBounds j true).getD j false = true := by
            have : j < listed.size := by omega
            simp [this]
          exact ⟨fun _ => hjnot, fun _ => this⟩
        · rw [getD_set_ne false e, hli i hi]
          exact ⟨fun h hx => h (hsub i hx), fun h hx => h (hmem i hx (Ne.symm e))⟩
      · by_cases e : j' = j
        · subst e
          obtain ⟨e, he, h2⟩ := hmask j' o ho i hb'
          obtain ⟨ed, h3, h4, rfl⟩ := mem_dep he
          have h5 := hall ed h3 h4
          have hlt : ed.on < ops.size := by
            rcases Nat.lt_or_ge ed.on listed.size with h' | h'
            · omega
            · simp [Array.getElem?_eq_none h'] at h5
          have h6 := (hli ed.on hlt).1 h5
          rcases h2 with rfl | h2
          · exact h6 (hsub _ hi')
          · exact hcl ed.on hlt h6 i h2 (hsub i hi')
        · exact hcl j' hj' (fun hx => hnj (hmem j' hx e)) i hb' (hsub i hi')

theorem topo_spec {ops : List Oper} : ∀ {l : List Nat}, topo ops l = true → (∀ j ∈ l, ∃ o, ops[j]? = some o ∧ j ∉ depsOf o ∧ ∀ d ∈ depsOf o, d < ops.length) ∧ l.Pairwise (depFree ops)
  | [], _ => ⟨fun _ h => (nomatch h), .nil⟩
  | j :: r, h => by
    unfold topo at h
    rw [Bool.and_eq_true] at h
    obtain ⟨h1, h2⟩ := h
    obtain ⟨i1, i2⟩ := topo_spec h2
    split at h1
    · rename_i o ho
      have hall := List.all_eq_true.1 h1
      refine ⟨fun j' hj' => ?_, List.pairwise_cons.2 ⟨fun j' hj' oi hoi hd => ?_, i2⟩⟩
      · rcases List.mem_cons.1 hj' with rfl | hj'
        · refine ⟨o, ho, fun hm => ?_, fun d hd => ?_⟩
          · have := hall _ hm
            simp at this
          · have := hall d hd
            rw [Bool.and_eq_true, Bool.and_eq_true] at this
            exact Nat.le_of_ble_eq_true this.2.2
        · exact i1 j' hj'
      · rw [ho] at hoi
        obtain rfl := Option.some.inj hoi
        have := hall _ hd
        rw [Bool.and_eq_true, Bool.and_eq_true] at this
        exact elem_false this.2.1 hj'
    · cases h1

theorem calls_spec {ops : List Oper} {m : List (Nat × Nat)} : ∀ {l : List Nat}, callsOk ops m l = true → l.Pairwise (callFree ops m)
  | [], _ => .nil
  | i :: r, h => by
    unfold callsOk at h
    rw [Bool.and_eq_true] at h
    obtain ⟨h1, h2⟩ := h
    refine List.pairwise_cons.2 ⟨fun j hj => ?_, calls_spec h2⟩
    split at h1
    · rename_i o ho
      split at h1
      · exact .inr (List.all_eq_true.1 h1 j hj)
      · rename_i hn
        exact .inl fun oi hoi => by
          rw [ho] at hoi
          obtain rfl := Option.some.inj hoi
          exact hn
    · cases h1

theorem elem_true {t : Nat} {l : List Nat} (h : l.elem t = true) : t ∈ l := by
  rw [List.elem_eq_contains] at h; simpa using h

/-- A region whose order is drawn. -/
theorem sound_draw {en : En} {st : St} {a : Act} {w : World} {l : List Nat} (r : RelE en st (fun k => st.base ≤ k) a w w0 W K0) (hdst : ∀ o ∈ ops.toList, ∀ d, o.dst = some d → d < st.n) (h : runDraw cx ops.toList l st Kc) :
    wpAny cx.P .any ops (EndR st.base ops.size st w0 W K0 Kc) ops.size (Array.replicate ops.size false) a w.drew := by
  unfold runDraw at h
  simp only at h
  split at h
  case h_2 => exact h.elim
  rename_i hc
  simp only [Bool.and_eq_true] at hc
  obtain ⟨hor, hmo, hco⟩ := hc
  unfold orderOk at hor
  simp only [Bool.and_eq_true] at hor
  obtain ⟨o1, o2, o3, o4⟩ := hor
  have hlen : l.length = ops.size := by have := Nat.eq_of_beq_eq_true o1; rw [Array.length_toList] at this; exact this
  obtain ⟨t1, t2⟩ := topo_spec o3
  have hin : ∀ i ∈ l, i < ops.size := fun i hi => by
    obtain ⟨o, ho, _⟩ := t1 i hi
    rw [Array.getElem?_toList] at ho
    exact (Array.getElem?_eq_some_iff.1 ho).1
  have hall : ∀ i, i < ops.size → i ∈ l := fun i hi => elem_true (List.all_eq_true.1 o4 i (List.mem_range.2 (by rw [Array.length_toList]; exact hi)))
  have hspec : ∀ (j : Nat) (o : Oper), ops[j]? = some o → j ∉ depsOf o ∧ ∀ d ∈ depsOf o, d < ops.size := fun j o ho => by
    obtain ⟨o', ho', h1, h2⟩ := t1 j (hall j (Array.getElem?_eq_some_iff.1 ho).1)
    rw [Array.getElem?_toList, ho] at ho'
    obtain rfl := Option.some.inj ho'
    exact ⟨h1, fun d hd => by have := h2 d hd; rw [Array.length_toList] at this; exact this⟩
  refine sound_any (m := masks ops.toList l []) st hdst (fun j o ho i hb => ?_) (fun j o ho => (hspec j o ho).1) (fun j o ho => (hspec j o ho).2) ops.size (l := l) (r.drew.fewer fun k hk => ?_) (by omega) (distinct_nodup o2) hin (by simp) (fun i hi => ?_) (fun j hj hnj => absurd (hall j hj) hnj) (calls_spec hco) t2 ⟨rfl, rfl⟩ h
  · unfold maskOk at hmo
    have hj := List.all_eq_true.1 hmo j (List.mem_range.2 (by rw [Array.length_toList]; exact (Array.getElem?_eq_some_iff.1 ho).1))
    rw [Array.getElem?_toList, ho] at hj
    have := Nat.eq_of_beq_eq_true hj
    rw [this] at hb
    exact orAll_bit hb
  · rcases hk with ⟨i, _, h1, _⟩ | h1
    · show st.base ≤ k; omega
    · show st.base ≤ k; omega
  · constructor
    · intro h1
      simp [Array.getD_eq_getD_getElem?, hi] at h1
    · intro h1
      exact absurd (hall i hi) h1

end
end Go.Gl
