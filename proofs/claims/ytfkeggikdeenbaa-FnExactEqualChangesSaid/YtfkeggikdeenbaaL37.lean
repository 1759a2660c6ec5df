/- The run over a function's code. -/
import Derived.Test.YtfkeggikdeenbaaL36
set_option linter.unusedVariables false
set_option linter.unusedSimpArgs false
namespace Go.Gl
open Go.RowKit

/-- The frame comes to its end, and Q holds there. -/
def FinP (P : Program) (b : Frame) (cs : List Frame) (Q : Act → World → Prop) (m : Machine) : Prop :=
  ∃ a' w' todo, Q a' w' ∧ Steps P m (lone { b.at a' todo with mode := .returning } cs w')

theorem FinP.of_steps {P : Program} {b : Frame} {cs : List Frame} {Q : Act → World → Prop} {m m1 : Machine} (h : Steps P m m1) (h' : FinP P b cs Q m1) : FinP P b cs Q m :=
  let ⟨a', w', todo, q, s⟩ := h'; ⟨a', w', todo, q, h.trans s⟩

section
variable {cx : Cx} {w0 : World} {W : CS} {K0 : Kb} {J : List Item → St → Prop} {R : St → Prop} {Q : Act → World → Prop} {m : Nat}

def SemT (P : Program) (w0 : World) (W : CS) (K0 : Kb) (Q : Act → World → Prop) (td : List Item) (st : St) : Prop :=
  ∀ (en : En) (a : Act) (w : World), RelE en st (fun k => st.base ≤ k) a w w0 W K0 → ∀ (b : Frame) (cs : List Frame), FinP P b cs Q (lone (b.at a td) cs w)

theorem dstOk_spec {ops : List Oper} {n : Nat} (h : dstOk ops n = true) : ∀ o ∈ ops, ∀ d, o.dst = some d → d < n := by
  intro o ho d hd
  have := List.all_eq_true.1 h o ho
  rw [hd] at this
  exact Nat.le_of_ble_eq_true this

theorem wpt_sound (hm : cx.P.follows .mixedOrders = true) (hJ : ∀ td st, J td st → st.n = m → SemT cx.P w0 W K0 Q td st) (hR : ∀ st en a w, R st → st.n = m → RelE en st (fun k => st.base ≤ k) a w w0 W K0 → Q a w) :
    ∀ (n : Nat) (td : List Item) (st : St), wpt cx J R n td st → st.n = m → SemT cx.P w0 W K0 Q td st := by
  intro n
  induction n with
  | zero => intro td st h; exact h.elim
  | succ n ih =>
    intro td st h hn en a w r b cs
    have head : ∀ {c : Code} {k : List Item}, (match norm (cx.head (rid c)) st with | some st' => J (.code c :: .inLoop c :: k) st' | none => False) → FinP cx.P b cs Q (lone (b.at a (.code c :: .inLoop c :: k)) cs w) := by
      intro c k h
      split at h
      · rename_i st' hs
        obtain ⟨en', r', n'⟩ := norm_rel r hs
        exact hJ _ _ h (n'.trans hn) en' a w r' b cs
      · exact h.elim
    have ends : ∀ {ops : Array Oper} {k : List Item} {e : Exit} {a' : Act} {w' : World} {m1 : Machine}, EndR st.base ops.size st w0 W K0 (fun st' => wpt cx J R n k { st' with base := st.base + 16 * ops.size }) e a' w' → Arrives cx.P m1 b k cs e a' w' → FinP cx.P b cs Q m1 := by
      rintro ops k e a' w' m1 ⟨rfl, st', en', r', b', n', h'⟩ harr
      refine FinP.of_steps harr (ih k _ h' (by show st'.n = m; rw [n', hn]) en' a' w' ?_ b cs)
      exact { r' with free := ⟨fun i hi => r'.free.slot i hi, fun i hi => r'.free.box i hi, fun i hi => r'.free.tok i hi, fun i hi => r'.free.cell i hi⟩ }
    cases td with
    | nil => exact ⟨a, w, [], hR st en a w h hn r, .one step_end⟩
    | cons x k =>
      cases x with
      | inBlock id => exact FinP.of_steps (.one step_inBlock) (ih k st h hn en a w r b cs)
      | inLoop c => exact FinP.of_steps (.one step_inLoop) (head h)
      | code c =>
        cases c with
        | ret => exact ⟨a, w, _, hR st en a w h hn r, .one step_ret⟩
        | skip => exact FinP.of_steps (.one step_skip) (ih k st h hn en a w r b cs)
        | seq x y => exact FinP.of_steps (.one step_seq) (ih _ st h hn en a w r b cs)
        | block id c => exact FinP.of_steps (.one step_block) (ih _ st h hn en a w r b cs)
        | loop c => exact FinP.of_steps (.one step_loop) (head h)
        | exit id =>
          simp only [wpt] at h
          split at h
          · rename_i k' hk
            exact FinP.of_steps (.one (step_exit hk)) (ih _ st h hn en a w r b cs)
          · exact h.elim
        | cond c x y =>
          simp only [wpt] at h
          split at h
          · rename_i t hc
            have hv := r.ev c
            rw [hc] at hv
            refine FinP.of_steps (.one (step_cond hv.bool_inv)) ?_
            cases t with
            | true => exact ih _ st (h.1 rfl) hn en a w r b cs
            | false => exact ih _ st (h.2 rfl) hn en a w r b cs
          · rename_i xs hc
            have hv := r.ev c
            rw [hc] at hv
            generalize he : a.eval c = v at hv
            cases hv with
            | un hx =>
              rename_i t
              refine FinP.of_steps (.one (step_cond he)) ?_
              cases t with
              | true => exact ih _ st (h.1 (hx (by simp))) hn en a w r b cs
              | false => exact ih _ st h.2 hn en a w r b cs
          · rename_i xs hc
            have hv := r.ev c
            rw [hc] at hv
            generalize he : a.eval c = v at hv
            cases hv with
            | un hx =>
              rename_i t
              refine FinP.of_steps (.one (step_cond he)) ?_
              cases t with
              | true => exact ih _ st h.1 hn en a w r b cs
              | false => exact ih _ st (h.2 (hx (by simp))) hn en a w r b cs
          · exact h.elim
        | region id ops draw =>
          simp only [wpt] at h
          split at h
          · exact h.elim
          · rename_i hd
            have hdst := dstOk_spec hd
            obtain ⟨e, a', w', q, harr⟩ := wp_ops _ a w (sound_ops (cx := cx) st (m := st.n) hdst (r.fewer fun k hk => by
              rcases hk with ⟨i, _, h1, _⟩ | h1
              · show st.base ≤ k; omega
              · show st.base ≤ k; omega) List.nodup_range rfl ⟨rfl, rfl⟩ h) b k cs
            exact FinP.of_steps (.one step_region) (ends q harr)
          · rename_i hd
            have hdst := dstOk_spec hd
            have hany := sound_draw r hdst h
            obtain ⟨e, a', w', q, harr⟩ := wp_ops _ a _ (wpAny_sound ops.size (w.tape w.drawn (.order b.fn id)) _ a w.drew hany) b k cs
            refine FinP.of_steps (.one step_region_draw) ?_
            simp only [Region.schedule, hm, Bool.true_or, if_true]
            exact ends q harr
        | _ => exact h.elim
      | _ => exact h.elim

end
end Go.Gl
