/- The law FnExactCountHoles: for every expression the program's CountHoles gives what the reference's gives, and leaves its argument as it was. No conditions. -/
import Derived.Test.YtfkeggikdeenbaaRows
import Derived.Test.YtfkeggikdeenbaaS3
import Derived.Test.YtfkeggikdeenbaaT2
import Derived.WalkKit
import Derived.ProofKit
import Derived.OpenShut
import Derived.ShutString
import Derived.ChangeOld
import Derived.Below
import Derived.SizedLaws
namespace Go.Proofs.Ytfkeggikdeenbaa.fnExactCountHoles
open Go.ChangeShapes Go.WideShapes Go.ChangeAt Go.RowKit Go.Gl
set_option linter.unusedVariables false
theorem own : ownKnob Try.prog.godebug = none := by kernel_rfl
theorem laidOut : laidOutB Try.prog = true := by kernel_rfl
theorem closed : closedS Try.prog [40, 37] = true := by kernel_rfl
theorem layE : lay2 Try.prog 8 40 = some [.int .i64, .str, .int .i64, .int .i64, .sl 37 2 32, .sl 40 6 88] := by kernel_rfl
theorem layT : lay2 Try.prog 8 37 = some [.int .i64, .sl 37 2 32] := by kernel_rfl
set_option maxRecDepth 100000 in
theorem lifted (os : Os) (started : os.Started) (H : Type) (enc : TypeId × Value → H) :
    ReturnsInHanded {} Try.checked os 6 .any (Rows.fnExactCountHolesSpec.pre6 enc Try.prog Try.f6 Rows.fnExactCountHolesRow.domain false) (Rows.fnExactCountHolesSpec.post enc Try.prog Try.f6 false true false false) := by
  refine returnsInHanded_of_change_sized (C := Try.checked) own started (by kernel_rfl) Try.func6
    (ChangeSpec.witness6 (enc := enc) (C := Try.checked) false ⟨#[], #[.agg #[.int .i64 0, .string ⟨#[]⟩, .int .i64 0, .int .i64 0, .slice none 0 0, .slice none 0 0]], []⟩ 8 (by kernel_rfl) (by kernel_rfl) (by kernel_rfl) (by kernel_rfl)) ?_
  intro W base args ds gs before hval0 hW hcnd hsz0 _
  have hsz : (DataW.weightsEach Try.prog (Try.f6.params.toList ++ Rows.fnExactCountHolesSpec.plain.varTypes Try.prog) (ds ++ gs)).all (· ≤ reachBytes) = true := hsz0
  have hval : ∀ (j : Nat) t v, Try.f6.params[j]? = some t → args[j]? = some v → Value.okWide Try.prog W .any base t v := hval0
  have hW' := hW
  obtain ⟨p, q, hA0, hV, rfl, hfz, hnd⟩ := hW
  have hA : DataW.TrodAll enc Try.prog W 0 (fun _ => true) true Try.f6.params.toList args.toList ds p := hA0
  rw [Try.params6] at hA hval hsz
  obtain ⟨v0, vs0, d0, ds0, p0, q0, hargs, rfl, rfl, h0, r0⟩ := trodAll_cons hA
  obtain ⟨rfl, rfl, rfl⟩ := trodAll_nil r0
  obtain rfl : args = #[v0] := by cases args; simp_all
  obtain ⟨rfl, rfl⟩ := trodVars_none hV
  have k0 := h0
  have lt0 : ∀ x ∈ p0, x.block < W.heap.size := by obtain ⟨m, hm⟩ := k0; exact DataW.trod_lt m _ _ _ hm
  have w0 := (weights_cons hsz).1
  have o0 := hval 0 40 v0 rfl rfl
  obtain ⟨D0, F0, l0, t0, a0, e0⟩ := arg_val (agg := true) closed layE (by kernel_rfl) (by kernel_rfl) (.inl ⟨rfl, by
    simp only [Value.okWide, Try.underlying40] at o0
    exact ⟨_, o0.choose_spec.1⟩⟩) h0 w0
  obtain ⟨x0, rfl⟩ := Ex.of layE layT l0 t0
  obtain ⟨i0, n0⟩ := inRep_val a0 e0 .nil (fun _ h => nomatch h)
  rw [Ex.row_eq] at i0
  refine (law_out (law6 x0) i0 n0).mono fun e W' ⟨he, bel⟩ => ?_
  subst he
  exact ⟨_, rfl, _, _, _, [], _, [], hW', trodAll_mk1 (shut_bool Try.underlying4 _), (trodAll_cons_mk (Below.trod laidOut (by kernel_rfl) (of_decide_eq_true (by kernel_rfl)) k0 bel lt0) trodAll_mk0), rfl, bel.frame _, fun h => by cases h⟩
theorem over : Rows.fnExactCountHolesRow.holds Try.pinned (OpenSpec.ofChange Rows.fnExactCountHolesSpec) :=
  OpenClaim.holds_of_wide 6 Try.f6 rfl rfl rfl rfl rfl rfl rfl ⟨rfl, rfl, rfl, rfl, rfl⟩ rfl rfl rfl rfl rfl (by kernel_rfl) Try.func6 (by kernel_rfl)
    (of_decide_eq_true (by kernel_rfl)) (by unfold Func.isWrapper; first | (rw [if_pos (by decide +kernel)]; kernel_rfl) | (rw [if_neg (by decide +kernel)]; exact ⟨rfl, rfl⟩))
    (fun os started H enc _ => lifted os started H enc)
theorem proved : Rows.FnExactCountHolesSaid := over
#print axioms proved
end Go.Proofs.Ytfkeggikdeenbaa.fnExactCountHoles
namespace Go.Proofs.Ytfkeggikdeenbaa
/-- The row, under a short name, for the claim. -/
theorem fnExactCountHoles_holds : Rows.FnExactCountHolesSaid := fnExactCountHoles.proved
end Go.Proofs.Ytfkeggikdeenbaa
