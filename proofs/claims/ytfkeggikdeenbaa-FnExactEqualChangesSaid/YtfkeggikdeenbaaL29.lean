/- Regions do what the logic's machine says, where their order is the text's. -/
import Derived.Test.YtfkeggikdeenbaaL28
import Derived.Orders
set_option linter.unusedVariables false
set_option linter.unusedSimpArgs false
namespace Go.Gl
open Go.RowKit

theorem app_base (st : St) (u : Upd) : (st.app u).base = st.base := by cases u <;> rfl

theorem apps_base (st : St) (us : List Upd) : (st.apps us).base = st.base := by
  induction us generalizing st with
  | nil => rfl
  | cons u us ih => exact (ih _).trans (app_base _ _)

section
variable {P : Program} {en : En} {st : St} {Fr : Nat → Prop} {a : Act} {w w' w0 : World} {W X : CS} {K0 : Kb} {o : Oper} {f : Nat}

theorem isCallOp_some {c : Call} (h : isCallOp o = some c) : o.op = .call c := by
  unfold isCallOp at h
  split at h
  · rename_i c' ho
    split at h
    · obtain rfl := Option.some.inj h; exact ho
    · cases h
  · cases h

theorem Goes.wp {Φ : Act → World → Prop} {Q : Exit → Act → World → Prop} (h : Goes P o a w Φ) : o.wp P a w Φ Q := by
  obtain ⟨w', v, hr, hΦ⟩ := h
  unfold Oper.wp
  rcases hr with hr | ⟨rfl, hr⟩
  · rw [hr]; exact hΦ
  · rw [hr]; exact hΦ

/-- What is true behind a step. -/
def Next (cx : Cx) (Fr : Nat → Prop) (f : Nat) (st : St) (w0 : World) (W : CS) (K0 : Kb) (Kc : St → Prop) (a' : Act) (w' : World) : Prop :=
  ∃ st' en', RelE en' st' (fun k => Fr k ∧ ¬ Rng f 16 k) a' w' w0 W K0 ∧ st'.base = st.base ∧ st'.n = st.n ∧ Kc st'

theorem sound_op {cx : Cx} {chk : List Upd → Bool} {Kc : St → Prop} {Q : Exit → Act → World → Prop} (r : RelE en st Fr a w w0 W K0) (hd : ∀ d, o.dst = some d → d < st.n) (hfr : ∀ k, Rng f 16 k → Fr k) (h : opStep cx chk o f st Kc) :
    o.wp cx.P a w (Next cx Fr f st w0 W K0 Kc) Q := by
  unfold opStep at h
  split at h
  · rename_i c hc
    refine Oper.wp_mono (fun a' w' ⟨us, en', h1, h2, h3⟩ => ?_) (sound_call r hd hfr (isCallOp_some hc) h)
    exact ⟨_, en', h2, apps_base _ _, apps_n _ _, h3⟩
  · unfold detStep at h
    split at h
    · exact h.elim
    · rename_i d hdet
      obtain ⟨ds, h1, h2, h3⟩ := exP_elim h
      split at h3
      · have hff : Fr f := hfr f ⟨Nat.le_refl _, by omega⟩
        have key : holdsO (d.body ds).1 ∧ Kc (st.apps (d.body ds).2) := by
          split at h3
          · rename_i hn; rw [hn]; exact ⟨trivial, h3⟩
          · rename_i φ hn; rw [hn]; exact h3
        have hg := opDet_sound r hd hff hdet ds h1 h2 key.1
        refine Goes.wp ?_
        obtain ⟨w', v, hr, en', r', _⟩ := hg
        exact ⟨w', v, hr, _, en', r'.fewer fun k hk => ⟨hk.1, fun e => hk.2 (by rw [e]; exact ⟨Nat.le_refl _, by omega⟩)⟩, apps_base _ _, apps_n _ _, key.2⟩
      · exact h3.elim

theorem slot_bool (r : RelE en st Fr a w w0 W K0) {d : Nat} {b : Bool} (h : st.slot d = .v false [.c (.bool b)]) : a.tmps[d]? = some (.bool b) := by
  have h1 := r.slots d
  rw [h] at h1
  have h2 := h1.bool_inv
  rw [Array.getD_eq_getD_getElem?] at h2
  cases h3 : a.tmps[d]? with
  | none => rw [h3] at h2; cases h2
  | some v => rw [h3] at h2; exact congrArg some h2

theorem guard_wanted {ops : Array Oper} (r : RelE en st Fr a w w0 W K0) {b : Bool} (h : guardVal ops.toList st o = some b) : Region.wanted o (yielded ops a.tmps) = b := by
  unfold guardVal at h
  unfold Region.wanted
  split at h
  · rename_i hg
    rw [hg]
    exact Option.some.inj h
  · rename_i j want hg
    rw [hg]
    split at h
    · rename_i d hj
      split at h
      · rename_i x hs
        have h1 := slot_bool r hs
        have h2 : (ops[j]?).bind (·.dst) = some d := by rw [Array.getElem?_toList] at hj; exact hj
        have hy : yielded ops a.tmps j = some x := by
          unfold yielded
          rw [h2]
          simp only [Option.bind_some]
          have h1' : a.tmps[d]? = some (.bool x) := h1
          rw [h1']
        simp only [hy]
        have h' := Option.some.inj h
        rw [← h']
        cases want <;> cases x <;> rfl
      · cases h
    · cases h

theorem sound_split {Kc : St → Prop} (r : RelE en st Fr a w w0 W K0) (h : splitOn o st Kc) : ∃ st', RelE en st' Fr a w w0 W K0 ∧ st'.base = st.base ∧ st'.n = st.n ∧ Kc st' := by
  unfold splitOn at h
  split at h
  · rename_i d hd
    split at h
    · rename_i b hs
      have h1 := r.slots d
      rw [hs] at h1
      have e := h1.bool_inv
      cases b with
      | true => exact ⟨_, r.tellSlot (i := d) (s := bval true) (by rw [e]; exact .bool) fun k _ => men_bval, rfl, rfl, h.1 rfl⟩
      | false => exact ⟨_, r.tellSlot (i := d) (s := bval false) (by rw [e]; exact .bool) fun k _ => men_bval, rfl, rfl, h.2 rfl⟩
    · exact h.elim
  · exact h.elim

theorem sound_one {cx : Cx} {chk : List Upd → Bool} {Kc : St → Prop} {Q : Exit → Act → World → Prop} {ops : Array Oper} {i : Nat} (hi : ops[i]? = some o) (r : RelE en st Fr a w w0 W K0) (hd : ∀ d, o.dst = some d → d < st.n) (hfr : ∀ k, Rng f 16 k → Fr k) (h : oneStep cx chk ops.toList i o f st Kc) :
    wpOp cx.P ops Q i (Next cx Fr f st w0 W K0 Kc) a w := by
  unfold wpOp
  rw [hi]
  simp only
  unfold oneStep at h
  split at h
  · rename_i hg
    rw [if_pos (guard_wanted r hg)]
    refine .inl (Oper.wp_mono (fun a' w' ⟨st', en', r', h1, h2, h3⟩ => ?_) (sound_op r hd hfr h))
    cases hs : isGuard ops.toList i with
    | true =>
      rw [hs] at h3
      obtain ⟨st2, r2, b2, n2, k2⟩ := sound_split r' h3
      exact ⟨st2, en', r2, b2.trans h1, n2.trans h2, k2⟩
    | false =>
      rw [hs] at h3
      exact ⟨st', en', r', h1, h2, h3⟩
  · rename_i hg
    rw [if_neg (by rw [guard_wanted r hg]; simp)]
    split at h
    · rename_i d hdd
      rw [hdd]
      exact ⟨_, en, (r.setSlot (hd d hdd) (s := .any) (v := undef) .any fun _ _ h => h).fewer fun k hk => hk.1, rfl, rfl, h⟩
    · rename_i hdd
      rw [hdd]
      exact ⟨st, en, r.fewer fun k hk => hk.1, rfl, rfl, h⟩
  · exact h.elim

/-- The names that are free while a region's operations l are still to be done. -/
def Frg (base n : Nat) (l : List Nat) : Nat → Prop := fun k => (∃ i ∈ l, Rng (base + 16 * i) 16 k) ∨ base + 16 * n ≤ k

theorem frg_cons {base n i : Nat} {l : List Nat} (hi : i ∉ l) (hn : i < n) : ∀ k, Frg base n l k → Frg base n (i :: l) k ∧ ¬ Rng (base + 16 * i) 16 k := by
  rintro k (⟨j, hj, h⟩ | h)
  · refine ⟨.inl ⟨j, List.mem_cons_of_mem _ hj, h⟩, fun h' => ?_⟩
    have : i ≠ j := fun e => hi (e ▸ hj)
    simp only [Rng] at h h'
    omega
  · refine ⟨.inr h, fun h' => ?_⟩
    simp only [Rng] at h'
    omega

/-- What is true behind a region. -/
def EndR (base n : Nat) (st : St) (w0 : World) (W : CS) (K0 : Kb) (Kc : St → Prop) : Exit → Act → World → Prop := fun e a' w' =>
  e = .normal ∧ ∃ st' en', RelE en' st' (fun k => base + 16 * n ≤ k) a' w' w0 W K0 ∧ st'.base = st.base ∧ st'.n = st.n ∧ Kc st'

theorem sound_ops {cx : Cx} {Kc : St → Prop} {ops : Array Oper} {base m : Nat} (st0 : St) (hdst : ∀ o ∈ ops.toList, ∀ d, o.dst = some d → d < m) : ∀ {l : List Nat} {en : En} {st : St} {a : Act} {w : World} (r : RelE en st (Frg base ops.size l) a w w0 W K0)
    (hl : l.Nodup) (hm : st.n = m) (hs : st.base = st0.base ∧ st.n = st0.n) (h : runOps cx ops.toList base l st Kc), wpOps cx.P ops (EndR base ops.size st0 w0 W K0 Kc) l a w
  | [], en, st, a, w, r, hl, hm, hs, h => ⟨rfl, st, en, r.fewer fun k hk => .inr hk, hs.1, hs.2, h⟩
  | i :: l, en, st, a, w, r, hl, hm, hs, h => by
    rw [wpOps_cons]
    unfold runOps at h
    split at h
    · rename_i o ho
      have ho' : ops[i]? = some o := by rw [← Array.getElem?_toList]; exact ho
      have hin : i < ops.size := (Array.getElem?_eq_some_iff.1 ho').1
      have hnd := List.nodup_cons.1 hl
      refine wpOp_mono (fun a' w' hx => ?_) (sound_one ho' r (fun d hd => by rw [hm]; exact hdst o (List.mem_of_getElem? ho) d hd) (fun k hk => .inl ⟨i, List.mem_cons_self, hk⟩) h)
      obtain ⟨st', en', r', h1, h2, h3⟩ := hx
      exact sound_ops st0 hdst (r'.fewer fun k hk => frg_cons hnd.1 hin k hk) hnd.2 (h2.trans hm) ⟨h1.trans hs.1, h2.trans hs.2⟩ h3
    · exact h.elim

end
end Go.Gl
