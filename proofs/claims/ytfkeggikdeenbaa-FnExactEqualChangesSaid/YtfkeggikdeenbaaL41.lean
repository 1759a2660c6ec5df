/- From a law's walk to the row's words. -/
import Derived.Test.YtfkeggikdeenbaaL40
import Derived.ChangeOld
import Derived.SizedLaws
import Derived.OpenShut
set_option linter.unusedVariables false
set_option linter.unusedSimpArgs false
namespace Go.Gl
open Go.RowKit Go.ChangeShapes

theorem map_of {α : Type} {f : α → List D} : ∀ {xs : List (List D)}, (∀ x ∈ xs, ∃ a, x = f a) → ∃ l : List α, xs = l.map f
  | [], _ => ⟨[], rfl⟩
  | x :: xs, h => by
    obtain ⟨a, rfl⟩ := h x (by simp)
    obtain ⟨l, rfl⟩ := map_of fun y hy => h y (List.mem_cons_of_mem _ hy)
    exact ⟨a :: l, rfl⟩

theorem Unch.below {w w' : World} {X : CS} (h : Unch w w' X) (hX : ∀ b o, ¬ X b o) : Below w.heap.size w w' := by
  refine ⟨h.os, h.tape, h.output, h.size, fun k hk => ?_⟩
  obtain ⟨o, ho⟩ : ∃ o, w.heap[k]? = some o := ⟨_, Array.getElem?_eq_getElem hk⟩
  obtain ⟨o', h1, h2⟩ := h.blk k o ho
  rw [h1, ho]
  rcases h2 with rfl | ⟨arr, arr', T, fr, rfl, rfl, h3, h4⟩
  · rfl
  · have : arr' = arr := Array.ext_getElem? fun j => h4 j (hX k j)
    rw [this]

def noneOwned (Ls : List CS) : Prop := ∀ F ∈ Ls, ∀ b o, ¬ F b o

/-- A law that returns true, in the row's words. -/
theorem law_out {P : Program} {f : FuncId} {args : List Arg} {W : World} {vs : List Value} {Ls : List CS} (h : C P f args ⟨[(false, [.c .bool])], []⟩ (fun b => b = true)) (hin : InRep W (inHeap W) args vs [] Ls) (hL : noneOwned Ls) :
    Calls P f vs.toArray W fun e w' => e = .returned (.bool true) ∧ Below W.heap.size W w' := by
  have hgood : Good W (inHeap W) Ls := ⟨fun F hF b o hf => (hL F hF b o hf).elim, by
    rw [List.pairwise_iff_getElem]
    intro i j hi hj _ b o h1
    exact (hL _ (List.getElem_mem hi) b o h1).elim, fun b o hb => hb⟩
  refine (h.run W (inHeap W) vs [] Ls hin hgood).mono fun e w' ⟨ds, rs, K', L1, L2, hp, he, hr, hb, _, hu, _, _⟩ => ?_
  refine ⟨?_, hu.below fun b o ⟨F, hF, hf⟩ => hL F hF b o hf⟩
  rw [he]
  cases ds with
  | nil => exact hp.elim
  | cons d ds =>
    cases d with
    | bool b =>
      cases ds with
      | nil =>
        have hb : b = true := hp
        subst hb
        cases hr with
        | cons hv ht =>
          cases ht
          cases hv with
          | one ha => cases ha with | c hd => cases hd; rfl
      | cons d ds => exact hp.elim
    | _ => exact hp.elim

section
variable {H : Type} {enc : TypeId × Value → H} {P : Program} {W : World} {spare : Nat → Bool} {held : Bool} {S : List TypeId}

theorem aRepL_c {K : CS} : ∀ {ds : List D} {cs : List Value}, ds.length = cs.length → (∀ (j : Nat) (d : D), ds[j]? = some d → ∃ v, cs[j]? = some v ∧ RepD W K d v) → ∃ Fs, ARepL W K (ds.map ACell.c) cs Fs ∧ noneOwned Fs
  | [], [], _, _ => ⟨[], .nil, fun _ h => nomatch h⟩
  | [], _ :: _, h, _ => by simp at h
  | _ :: _, [], h, _ => by simp at h
  | d :: ds, v :: vs, hl, h => by
    obtain ⟨u, h1, h2⟩ := h 0 d rfl
    obtain rfl : v = u := by simpa using h1
    obtain ⟨Fs, h3, h4⟩ := aRepL_c (ds := ds) (cs := vs) (by simpa using hl) fun j d hj => h (j + 1) d hj
    refine ⟨(fun _ _ => False) :: Fs, .cons (.c h2) h3, fun F hF b o hf => ?_⟩
    rcases List.mem_cons.1 hF with rfl | hF
    · exact hf
    · exact h4 F hF b o hf

/-- An argument that is read. -/
theorem arg_val (hS : closedS P S = true) {T : TypeId} {agg : Bool} {ks : List CK} {v : Value} {d : DataW H} {ps : List MemPlace} (hl : lay2 P 8 T = some ks) (hc : P.cellsOf T = ks.length) (ho : ks.all (elemOk S) = true)
    (hv : (agg = true ∧ ∃ cs, v = .agg cs) ∨ (agg = false ∧ v.cells = #[v])) (ht : DataW.Trod enc P W 0 spare held T v d ps) (hw : (d.weights P T).all (· ≤ reachBytes) = true) :
    ∃ (ds : List D) (Fs : List CS), ds.length = ks.length ∧ (∀ (j : Nat) (k : CK) (d : D), ks[j]? = some k → ds[j]? = some d → TD P k d) ∧ AVal W (inHeap W) agg (ds.map ACell.c) v Fs ∧ noneOwned Fs := by
  obtain ⟨fuel, hf⟩ := ht
  obtain ⟨ds, h1, h2, h3⟩ := trod_reads hS fuel 8 T ks _ _ hl hc ho hf hw
  have hget : ∀ (j : Nat) (d : D), ds[j]? = some d → ∃ k v', ks[j]? = some k ∧ v.cells.toList[j]? = some v' ∧ RepD W (inHeap W) d v' ∧ TD P k d := fun j d hj => by
    have hjl : j < ks.length := by have := (List.getElem?_eq_some_iff.1 hj).1; omega
    obtain ⟨d', v', q1, q2, q3, q4⟩ := h3 j _ (List.getElem?_eq_getElem hjl)
    rw [hj] at q1
    obtain rfl := Option.some.inj q1
    exact ⟨_, v', List.getElem?_eq_getElem hjl, q2, q3, q4⟩
  obtain ⟨Fs, g1, g2⟩ := aRepL_c (W := W) (K := inHeap W) (ds := ds) (cs := v.cells.toList) (by omega) fun j d hj => by
    obtain ⟨k, v', _, q2, q3, _⟩ := hget j d hj
    exact ⟨v', q2, q3⟩
  refine ⟨ds, Fs, h1, fun j k d hk hd => ?_, ?_, g2⟩
  · obtain ⟨k', v', q1, _, _, q4⟩ := hget j d hd
    rw [hk] at q1
    obtain rfl := Option.some.inj q1
    exact q4
  · rcases hv with ⟨rfl, cs, rfl⟩ | ⟨rfl, hcv⟩
    · exact .agg g1
    · rw [hcv] at g1 h2
      cases hds : ds with
      | nil => rw [hds] at h1; rw [← h1] at h2; simp at h2
      | cons d ds' =>
        rw [hds] at g1
        cases ds' with
        | nil =>
          cases g1 with
          | cons ha ht => cases ht; exact .one ha
        | cons d2 ds2 =>
          rw [hds] at h1
          rw [← h1] at h2
          simp at h2

theorem td_int {k : IntKind} {d : D} (h : TD P (.int k) d) : ∃ n, d = .int k n ∧ (Lit.int k n).wf = true := by
  cases h with | int h => exact ⟨_, rfl, h⟩
theorem td_bool {d : D} (h : TD P .bool d) : ∃ n, d = .bool n := by
  cases h; exact ⟨_, rfl⟩
theorem td_str {d : D} (h : TD P .str d) : ∃ n, d = .str n := by
  cases h; exact ⟨_, rfl⟩
/-- The rows of a slice. -/
theorem td_sl {α : Type} {T e B : Nat} {d : D} {ks : List CK} {f : α → List D} (h : TD P (.sl T e B) d) (hk : lay2 P 8 T = some ks) (hf : ∀ x : List D, x.length = ks.length → (∀ (j : Nat) (k : CK) (d : D), ks[j]? = some k → x[j]? = some d → TD P k d) → ∃ a, x = f a) :
    ∃ l : List α, d = .sl B (l.map f) := by
  cases h with
  | sl hk' hl h =>
    rw [hk] at hk'
    obtain rfl := Option.some.inj hk'
    obtain ⟨l, rfl⟩ := map_of (f := f) fun x hx => hf x (hl x hx) (h x hx)
    exact ⟨l, rfl⟩

theorem inRep_val {args : List Arg} {vs : List Value} {agg : Bool} {cs : List ACell} {v : Value} {Fs Ls : List CS} (h : AVal W (inHeap W) agg cs v Fs) (h1 : noneOwned Fs) (ht : InRep W (inHeap W) args vs [] Ls) (h2 : noneOwned Ls) :
    InRep W (inHeap W) (.val agg cs :: args) (v :: vs) [] (Fs ++ Ls) ∧ noneOwned (Fs ++ Ls) :=
  ⟨.val h ht, fun F hF => (List.mem_append.1 hF).elim (h1 F) (h2 F)⟩

theorem weights_cons {t : TypeId} {ts : List TypeId} {d : DataW H} {ds : List (DataW H)} (h : (DataW.weightsEach P (t :: ts) (d :: ds)).all (· ≤ reachBytes) = true) :
    (d.weights P t).all (· ≤ reachBytes) = true ∧ (DataW.weightsEach P ts ds).all (· ≤ reachBytes) = true := by
  unfold DataW.weightsEach at h
  rw [List.all_append, Bool.and_eq_true] at h
  exact h

end
end Go.Gl
