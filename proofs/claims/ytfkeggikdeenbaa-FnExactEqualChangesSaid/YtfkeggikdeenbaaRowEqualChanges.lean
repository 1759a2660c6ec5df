/- The law FnExactEqualChanges: for every two lists of changes the program's EqualChanges gives what the reference's gives, and leaves its arguments as they were. No conditions. -/
import Derived.Test.YtfkeggikdeenbaaRows
import Derived.Test.YtfkeggikdeenbaaP9
import Derived.Test.YtfkeggikdeenbaaT5
import Derived.WalkKit
import Derived.ProofKit
import Derived.OpenShut
import Derived.ShutString
import Derived.ChangeOld
import Derived.Below
import Derived.SizedLaws
namespace Go.Proofs.Ytfkeggikdeenbaa.fnExactEqualChanges
open Go.ChangeShapes Go.WideShapes Go.ChangeAt Go.RowKit Go.Gl
set_option linter.unusedVariables false
theorem own : ownKnob Try.prog.godebug = none := by kernel_rfl
theorem laidOut : laidOutB Try.prog = true := by kernel_rfl
theorem closed : closedS Try.prog [114, 3, 40, 37] = true := by kernel_rfl
theorem layA : lay2 Try.prog 8 61 = some [.sl 114 7 112] := by kernel_rfl
theorem layC : lay2 Try.prog 8 114 = some [.sl 3 1 8, .int .i64, .str, .int .i64, .int .i64, .sl 37 2 32, .sl 40 6 88] := by kernel_rfl
theorem layE : lay2 Try.prog 8 40 = some [.int .i64, .str, .int .i64, .int .i64, .sl 37 2 32, .sl 40 6 88] := by kernel_rfl
theorem layT : lay2 Try.prog 8 37 = some [.int .i64, .sl 37 2 32] := by kernel_rfl
theorem layI : lay2 Try.prog 8 3 = some [.int .i64] := by kernel_rfl
set_option maxRecDepth 100000 in
theorem lifted (os : Os) (started : os.Started) (H : Type) (enc : TypeId × Value → H) :
    ReturnsInHanded {} Try.checked os 9 .any (Rows.fnExactEqualChangesSpec.pre6 enc Try.prog Try.f9 Rows.fnExactEqualChangesRow.domain false) (Rows.fnExactEqualChangesSpec.post enc Try.prog Try.f9 false true false false) := by
  refine returnsInHanded_of_change_sized (C := Try.checked) own started (by kernel_rfl) Try.func9
    (ChangeSpec.witness6 (enc := enc) (C := Try.checked) false ⟨#[], #[.slice none 0 0, .slice none 0 0], []⟩ 8 (by kernel_rfl) (by kernel_rfl) (by kernel_rfl) (by kernel_rfl)) ?_
  intro W base args ds gs before hval0 hW hcnd hsz0 _
  have hsz : (DataW.weightsEach Try.prog (Try.f9.params.toList ++ Rows.fnExactEqualChangesSpec.plain.varTypes Try.prog) (ds ++ gs)).all (· ≤ reachBytes) = true := hsz0
  have hval : ∀ (j : Nat) t v, Try.f9.params[j]? = some t → args[j]? = some v → Value.okWide Try.prog W .any base t v := hval0
  have hW' := hW
  obtain ⟨p, q, hA0, hV, rfl, hfz, hnd⟩ := hW
  have hA : DataW.TrodAll enc Try.prog W 0 (fun _ => true) true Try.f9.params.toList args.toList ds p := hA0
  rw [Try.params9] at hA hval hsz
  obtain ⟨v0, vs0, d0, ds0, p0, q0, hargs, rfl, rfl, h0, r0⟩ := trodAll_cons hA
  obtain ⟨v1, vs1, d1, ds1, p1, q1, rfl, rfl, rfl, h1, r1⟩ := trodAll_cons r0
  obtain ⟨rfl, rfl, rfl⟩ := trodAll_nil r1
  obtain rfl : args = #[v0, v1] := by cases args; simp_all
  obtain ⟨rfl, rfl⟩ := trodVars_none hV
  have k0 := h0
  have k1 := h1
  have lt0 : ∀ x ∈ p0, x.block < W.heap.size := by obtain ⟨m, hm⟩ := k0; exact DataW.trod_lt m _ _ _ hm
  have lt1 : ∀ x ∈ p1, x.block < W.heap.size := by obtain ⟨m, hm⟩ := k1; exact DataW.trod_lt m _ _ _ hm
  have w0 := (weights_cons hsz).1
  have w1 := (weights_cons (weights_cons hsz).2).1
  have o0 := hval 0 61 v0 rfl rfl
  have o1 := hval 1 61 v1 rfl rfl
  obtain ⟨D0, F0, l0, t0, a0, e0⟩ := arg_val (agg := false) closed layA (by kernel_rfl) (by kernel_rfl) (.inr ⟨rfl, by
    simp only [Value.okWide, Try.underlying61] at o0
    cases v0 with
    | agg cs => simp only [Cell.okWide, Cell.ok, Try.underlying61] at o0
    | _ => rfl⟩) h0 w0
  obtain ⟨D1, F1, l1, t1, a1, e1⟩ := arg_val (agg := false) closed layA (by kernel_rfl) (by kernel_rfl) (.inr ⟨rfl, by
    simp only [Value.okWide, Try.underlying61] at o1
    cases v1 with
    | agg cs => simp only [Cell.okWide, Cell.ok, Try.underlying61] at o1
    | _ => rfl⟩) h1 w1
  obtain ⟨z0, rfl⟩ := len1 l0
  obtain ⟨x0, rfl⟩ := Ch.of_sl layC layI layE layT (t0 0 _ _ rfl rfl)
  obtain ⟨z1, rfl⟩ := len1 l1
  obtain ⟨x1, rfl⟩ := Ch.of_sl layC layI layE layT (t1 0 _ _ rfl rfl)
  obtain ⟨i1, n1⟩ := inRep_val a1 e1 .nil (fun _ h => nomatch h)
  obtain ⟨i0, n0⟩ := inRep_val a0 e0 i1 n1
  refine (law_out (c9 x0 x1 true (law9 x0 x1)) i0 n0).mono fun e W' ⟨he, bel⟩ => ?_
  subst he
  exact ⟨_, rfl, _, _, _, [], _, [], hW', trodAll_mk1 (shut_bool Try.underlying4 _), (trodAll_cons_mk (Below.trod laidOut (by kernel_rfl) (of_decide_eq_true (by kernel_rfl)) k0 bel lt0) (trodAll_cons_mk (Below.trod laidOut (by kernel_rfl) (of_decide_eq_true (by kernel_rfl)) k1 bel lt1) trodAll_mk0)), rfl, bel.frame _, fun h => by cases h⟩
theorem over : Rows.fnExactEqualChangesRow.holds Try.pinned (OpenSpec.ofChange Rows.fnExactEqualChangesSpec) :=
  OpenClaim.holds_of_wide 9 Try.f9 rfl rfl rfl rfl rfl rfl rfl ⟨rfl, rfl, rfl, rfl, rfl⟩ rfl rfl rfl rfl rfl (by kernel_rfl) Try.func9 (by kernel_rfl)
    (of_decide_eq_true (by kernel_rfl)) (by unfold Func.isWrapper; first | (rw [if_pos (by decide +kernel)]; kernel_rfl) | (rw [if_neg (by decide +kernel)]; exact ⟨rfl, rfl⟩))
    (fun os started H enc _ => lifted os started H enc)
theorem proved : Rows.FnExactEqualChangesSaid := over
#print axioms proved
end Go.Proofs.Ytfkeggikdeenbaa.fnExactEqualChanges
namespace Go.Proofs.Ytfkeggikdeenbaa
/-- The row, under a short name, for the claim. -/
theorem fnExactEqualChanges_holds : Rows.FnExactEqualChangesSaid := fnExactEqualChanges.proved
end Go.Proofs.Ytfkeggikdeenbaa
