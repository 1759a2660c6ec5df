/- Two steps that have nothing to do with each other may be done in either order. -/
import Derived.Test.YtfkeggikdeenbaaL30
set_option linter.unusedVariables false
set_option linter.unusedSimpArgs false
namespace Go.Gl
open Go.RowKit

structure Agr (ops : List Oper) (o : Oper) (s s' : St) : Prop where
  slot : ∀ t ∈ reads ops o, s.slot t = s'.slot t
  dst : ∀ d, o.dst = some d → s.slot d = s'.slot d
  key : ∀ k ∈ opKeys o s, s.box k = s'.box k ∧ s.tok k = s'.tok k

section
variable {ops : List Oper} {o : Oper} {s s' : St} {f : Nat} {ks : List Nat} {us : List Upd} {cx : Cx}

theorem tmps_mem {l : List Operand} {t : Nat} (h : Operand.tmp t ∈ l) : t ∈ tmpsOf l := by
  induction l with
  | nil => cases h
  | cons x l ih =>
    rcases List.mem_cons.1 h with rfl | h2
    · exact List.mem_cons_self
    · have := ih h2
      cases x <;> simp [tmpsOf, this]

theorem reads_tmps {t : Nat} (h : t ∈ tmpsOf (opnds o)) : t ∈ reads ops o := by
  unfold reads
  split
  · split
    · exact List.mem_cons_of_mem _ h
    · exact h
  · exact h

theorem Agr.ev (h : Agr ops o s s') : ∀ x ∈ opnds o, s.ev x = s'.ev x := by
  intro x hx
  cases x with
  | tmp t => exact h.slot t (reads_tmps (tmps_mem hx))
  | _ => rfl

theorem boxKeys_congr {box box' : Nat → Option (List Cell)} {l : List Nat} (h : ∀ b ∈ l, box b = box' b) : boxKeys box l = boxKeys box' l := by
  unfold boxKeys
  induction l with
  | nil => rfl
  | cons b l ih =>
    rw [List.flatMap_cons, List.flatMap_cons, ih fun b' hb => h b' (List.mem_cons_of_mem _ hb), h b List.mem_cons_self]

theorem flatMap_congr' {α β : Type} {l : List α} {g g' : α → List β} (h : ∀ x ∈ l, g x = g' x) : l.flatMap g = l.flatMap g' := by
  induction l with
  | nil => rfl
  | cons x l ih => rw [List.flatMap_cons, List.flatMap_cons, ih fun y hy => h y (List.mem_cons_of_mem _ hy), h x List.mem_cons_self]

theorem opKeys_not (h : slotOnly o = false) : opKeys o s = keysOf (opnds o) s := by unfold opKeys; rw [h]; rfl
theorem opKeys_yes (h : slotOnly o = true) : opKeys o s = [] := by unfold opKeys; rw [h]; rfl

theorem Agr.keys (h : Agr ops o s s') : opKeys o s' = opKeys o s := by
  cases ho : slotOnly o with
  | true => rw [opKeys_yes ho, opKeys_yes ho]
  | false =>
    have hkey := h.key
    rw [opKeys_not ho] at hkey
    rw [opKeys_not ho, opKeys_not ho]
    have h1 : (opnds o).flatMap (fun x => slotKeys (s'.ev x)) = (opnds o).flatMap fun x => slotKeys (s.ev x) := flatMap_congr' fun x hx => by rw [h.ev x hx]
    unfold keysOf
    simp only [h1]
    congr 1
    exact (boxKeys_congr fun b hb => (hkey b (List.mem_append_left _ hb)).1).symm

theorem key_of' {x : Operand} {k : Nat} (hx : x ∈ opnds o) (hk : k ∈ slotKeys (s.ev x)) : k ∈ keysOf (opnds o) s :=
  List.mem_append_left _ (List.mem_flatMap.2 ⟨x, hx, hk⟩)
theorem key_of (ho : slotOnly o = false) {x : Operand} {k : Nat} (hx : x ∈ opnds o) (hk : k ∈ slotKeys (s.ev x)) : k ∈ opKeys o s := by
  rw [opKeys_not ho]; exact key_of' hx hk

theorem det_slotOnly {P : Program} {ev : Operand → Slot} {box box' : Nat → Option (List Cell)} {tok tok' : Nat → Option Tok} (ho : slotOnly o = true) : opDet P o f ev box tok = opDet P o f ev box' tok' := by
  unfold slotOnly at ho
  unfold opDet
  cases h : o.op <;> rw [h] at ho <;> first | rfl | cases ho

theorem Agr.det (h : Agr ops o s s') : opDet cx.P o f s.ev s.box s.tok = opDet cx.P o f s'.ev s'.box s'.tok := by
  cases ho : slotOnly o with
  | true =>
    rw [det_slotOnly (box' := s'.box) (tok' := s'.tok) ho]
    exact opDet_ev (box := s'.box) (tok := s'.tok) h.ev
  | false => exact opDet_congr h.ev fun x hx k hk => h.key k (key_of ho hx hk)

theorem Agr.guard (h : Agr ops o s s') : guardVal ops s o = guardVal ops s' o := by
  unfold guardVal
  cases hg : o.guard with
  | none => rfl
  | some p =>
    obtain ⟨j, want⟩ := p
    simp only
    cases hj : (ops[j]?).bind (·.dst) with
    | none => rfl
    | some d =>
      simp only
      rw [h.slot d (by unfold reads; rw [hg]; simp only [hj]; exact List.mem_cons_self)]

/-! What updates do, place by place. -/

theorem apps_slot_dep : ∀ {us : List Upd} {s s' : St} {t : Nat}, s.slot t = s'.slot t → (s.apps us).slot t = (s'.apps us).slot t
  | [], _, _, _, h => h
  | u :: us, s, s', t, h => apps_slot_dep (us := us) (by
      cases u with
      | slot d v => show upd s.slot d v t = upd s'.slot d v t; rw [upd_eq, upd_eq, h]
      | _ => exact h)

theorem apps_box_dep : ∀ {us : List Upd} {s s' : St} {t : Nat}, s.box t = s'.box t → (s.apps us).box t = (s'.apps us).box t
  | [], _, _, _, h => h
  | u :: us, s, s', t, h => apps_box_dep (us := us) (by
      cases u with
      | box d v => show upd s.box d (some v) t = upd s'.box d (some v) t; rw [upd_eq, upd_eq, h]
      | off d => show upd s.box d none t = upd s'.box d none t; rw [upd_eq, upd_eq, h]
      | _ => exact h)

theorem apps_tok_dep : ∀ {us : List Upd} {s s' : St} {t : Nat}, s.tok t = s'.tok t → (s.apps us).tok t = (s'.apps us).tok t
  | [], _, _, _, h => h
  | u :: us, s, s', t, h => apps_tok_dep (us := us) (by
      cases u with
      | tok d v => show upd s.tok d v t = upd s'.tok d v t; rw [upd_eq, upd_eq, h]
      | _ => exact h)

theorem okU_cons {u : Upd} (h : okU o f ks (u :: us) = true) : okU o f ks [u] = true ∧ okU o f ks us = true := by
  unfold okU at h ⊢
  simp only [List.all_cons, List.all_nil, Bool.and_true, Bool.and_eq_true] at h ⊢
  exact h

theorem okU_append {vs : List Upd} (h1 : okU o f ks us = true) (h2 : okU o f ks vs = true) : okU o f ks (us ++ vs) = true := by
  unfold okU at h1 h2 ⊢
  rw [List.all_append, h1, h2]; rfl

/-- A place that an operation may not change. -/
def spared (o : Oper) (f : Nat) (ks : List Nat) (k : Nat) : Prop := pureOp o = true ∨ (k ∉ ks ∧ ¬ Rng f 16 k)

theorem spared_ne {b : Nat} {k : Nat} (hs : spared o f ks k) (h : (!(pureOp o) && (ks.elem b || (Nat.ble f b && Nat.blt b (f + 16)))) = true) : k ≠ b := by
  rw [Bool.and_eq_true] at h
  rintro rfl
  rcases hs with hs | ⟨h1, h2⟩
  · rw [hs] at h; cases h.1
  · have h3 := h.2
    rw [Bool.or_eq_true, Bool.and_eq_true] at h3
    rcases h3 with h3 | h3
    · exact h1 (by rw [List.elem_eq_contains] at h3; simpa using h3)
    · exact h2 ⟨Nat.le_of_ble_eq_true h3.1, Nat.le_of_ble_eq_true h3.2⟩

theorem okU_keep : ∀ {us : List Upd} {s : St}, okU o f ks us = true → (∀ t, o.dst ≠ some t → (s.apps us).slot t = s.slot t) ∧ ∀ k, spared o f ks k → (s.apps us).box k = s.box k ∧ (s.apps us).tok k = s.tok k
  | [], s, _ => ⟨fun _ _ => rfl, fun _ _ => ⟨rfl, rfl⟩⟩
  | u :: us, s, h => by
    obtain ⟨h1, h2⟩ := okU_cons h
    obtain ⟨i1, i2⟩ := okU_keep (us := us) (s := s.app u) h2
    unfold okU at h1
    simp only [List.all_cons, List.all_nil, Bool.and_true] at h1
    refine ⟨fun t ht => (i1 t ht).trans ?_, fun k hk => ⟨(i2 k hk).1.trans ?_, (i2 k hk).2.trans ?_⟩⟩
    · cases u with
      | slot d v =>
        simp only at h1
        split at h1
        · rename_i d' hd
          have := Nat.eq_of_beq_eq_true h1
          subst this
          exact upd_ne _ _ _ fun e => ht (by rw [hd, e])
        · cases h1
      | _ => rfl
    · cases u with
      | box b v => exact upd_ne _ _ _ (spared_ne hk h1)
      | off b => exact upd_ne _ _ _ (spared_ne hk h1)
      | _ => rfl
    · cases u with
      | tok b v => exact upd_ne _ _ _ (spared_ne hk h1)
      | _ => rfl

theorem St.ext {s s' : St} (h1 : ∀ t, s.slot t = s'.slot t) (h2 : ∀ t, s.box t = s'.box t) (h3 : ∀ t, s.tok t = s'.tok t) (h4 : s.base = s'.base) (h5 : s.n = s'.n) : s = s' := by
  cases s; cases s'
  simp only at h1 h2 h3 h4 h5
  congr
  · exact funext h1
  · exact funext h2
  · exact funext h3

theorem apps_comm {o2 : Oper} {f2 : Nat} {ks2 : List Nat} {vs : List Upd} (h1 : okU o f ks us = true) (h2 : okU o2 f2 ks2 vs = true) (hd : ∀ t, o.dst ≠ some t ∨ o2.dst ≠ some t) (hk : ∀ k, spared o f ks k ∨ spared o2 f2 ks2 k) :
    (s.apps us).apps vs = (s.apps vs).apps us := by
  refine St.ext (fun t => ?_) (fun t => ?_) (fun t => ?_) (by simp only [apps_base]) (by simp only [apps_n])
  · rcases hd t with h | h
    · rw [(okU_keep h1).1 t h]; exact apps_slot_dep ((okU_keep h1).1 t h)
    · rw [(okU_keep h2).1 t h]; exact (apps_slot_dep ((okU_keep h2).1 t h)).symm
  · rcases hk t with h | h
    · rw [((okU_keep h1).2 t h).1]; exact apps_box_dep ((okU_keep h1).2 t h).1
    · rw [((okU_keep h2).2 t h).1]; exact (apps_box_dep ((okU_keep h2).2 t h).1).symm
  · rcases hk t with h | h
    · rw [((okU_keep h1).2 t h).2]; exact apps_tok_dep ((okU_keep h1).2 t h).2
    · rw [((okU_keep h2).2 t h).2]; exact (apps_tok_dep ((okU_keep h2).2 t h).2).symm

/-! A step, elsewhere. -/

theorem exP_map : ∀ {l : List CK} {K : List D → Prop}, ExP l K → ∃ ds, K ds ∧ ∀ K' : List D → Prop, K' ds → ExP l K'
  | [], K, h => ⟨[], h, fun _ h => h⟩
  | .int k :: l, K, ⟨n, h⟩ => let ⟨ds, h1, h2⟩ := exP_map h; ⟨.int k n :: ds, h1, fun K' h' => ⟨n, h2 (fun ds => K' (.int k n :: ds)) h'⟩⟩
  | .bool :: l, K, ⟨n, h⟩ => let ⟨ds, h1, h2⟩ := exP_map h; ⟨.bool n :: ds, h1, fun K' h' => ⟨n, h2 (fun ds => K' (.bool n :: ds)) h'⟩⟩
  | .str :: l, K, ⟨n, h⟩ => let ⟨ds, h1, h2⟩ := exP_map h; ⟨.str n :: ds, h1, fun K' h' => ⟨n, h2 (fun ds => K' (.str n :: ds)) h'⟩⟩
  | .sl T e B :: l, K, ⟨n, h⟩ => let ⟨ds, h1, h2⟩ := exP_map h; ⟨.sl B n :: ds, h1, fun K' h' => ⟨n, h2 (fun ds => K' (.sl B n :: ds)) h'⟩⟩

/-- The split behind a step. -/
theorem split_norm {i : Nat} {Φ : St → Prop} (hu : okU o f ks us = true) (h : bif isGuard ops i then splitOn o (s.apps us) Φ else Φ (s.apps us)) :
    ∃ vs, okU o f ks (us ++ vs) = true ∧ Φ (s.apps (us ++ vs)) ∧ ∀ (s' : St) (Φ' : St → Prop), (∀ d, o.dst = some d → s.slot d = s'.slot d) → Φ' (s'.apps (us ++ vs)) → bif isGuard ops i then splitOn o (s'.apps us) Φ' else Φ' (s'.apps us) := by
  cases hg : isGuard ops i with
  | false =>
    rw [hg] at h
    exact ⟨[], by rw [List.append_nil]; exact hu, by rw [List.append_nil]; exact h, fun s' Φ' _ h' => by rw [List.append_nil] at h'; exact h'⟩
  | true =>
    rw [hg] at h
    simp only [cond_true] at h ⊢
    unfold splitOn at h
    split at h
    · rename_i d hd
      split at h
      · rename_i b hs
        have hone : okU o f ks [.slot d (bval b)] = true := by
          unfold okU
          simp only [List.all_cons, List.all_nil, Bool.and_true, hd]
          exact Nat.beq_refl d
        refine ⟨[.slot d (bval b)], okU_append hu hone, ?_, fun s' Φ' ha h' => ?_⟩
        · rw [apps_append]
          cases b with
          | true => exact h.1 rfl
          | false => exact h.2 rfl
        · have hs' : (s'.apps us).slot d = .v false [.c (.bool b)] := by rw [← apps_slot_dep (ha d hd)]; exact hs
          rw [apps_append] at h'
          unfold splitOn
          simp only [hd, hs']
          cases b with
          | true => exact ⟨fun _ => h', fun e => (nomatch e)⟩
          | false => exact ⟨fun e => (nomatch e), fun _ => h'⟩
      · exact h.elim
    · exact h.elim

theorem step_norm {i : Nat} {Φ : St → Prop} (hc : isCallOp o = none) (h : oneStep cx (okU o f ks) ops i o f s Φ) :
    ∃ us, okU o f ks us = true ∧ Φ (s.apps us) ∧ ∀ (s' : St) (Φ' : St → Prop), Agr ops o s s' → Φ' (s'.apps us) → oneStep cx (okU o f ks) ops i o f s' Φ' := by
  unfold oneStep at h
  split at h
  · rename_i hg
    unfold opStep at h
    rw [hc] at h
    simp only at h
    unfold detStep at h
    split at h
    · exact h.elim
    · rename_i d hdet
      obtain ⟨ds, h1, h2⟩ := exP_map h
      split at h1
      · rename_i hchk
        have key : (∀ φ, (d.body ds).1 = some φ → φ) ∧ (bif isGuard ops i then splitOn o (s.apps (d.body ds).2) Φ else Φ (s.apps (d.body ds).2)) := by
          split at h1
          · rename_i hn; exact ⟨fun φ e => (by rw [hn] at e; cases e), h1⟩
          · rename_i φ hn; exact ⟨fun φ' e => (by rw [hn] at e; obtain rfl := Option.some.inj e; exact h1.1), h1.2⟩
        obtain ⟨vs, q1, q2, q3⟩ := split_norm hchk key.2
        refine ⟨_, q1, q2, fun s' Φ' ha h' => ?_⟩
        unfold oneStep
        rw [← ha.guard, hg]
        simp only
        unfold opStep
        rw [hc]
        simp only
        unfold detStep
        rw [← ha.det (cx := cx) (f := f), hdet]
        simp only
        refine h2 _ ?_
        rw [hchk]
        simp only
        have h3 := q3 s' Φ' ha.dst h'
        split
        · exact h3
        · rename_i φ hn; exact ⟨key.1 φ hn, h3⟩
      · exact h1.elim
  · rename_i hg
    have hone : ∀ d, o.dst = some d → okU o f ks [.slot d .any] = true := fun d hd => by
      unfold okU
      simp only [List.all_cons, List.all_nil, Bool.and_true, hd]
      exact Nat.beq_refl d
    split at h
    · rename_i d hd
      refine ⟨[.slot d .any], hone d hd, h, fun s' Φ' ha h' => ?_⟩
      unfold oneStep
      rw [← ha.guard, hg]
      simp only [hd]
      exact h'
    · rename_i hd
      refine ⟨[], rfl, h, fun s' Φ' ha h' => ?_⟩
      unfold oneStep
      rw [← ha.guard, hg]
      simp only [hd]
      exact h'
  · exact h.elim

end
end Go.Gl
