/- The two functions ExampleText, of the reference and of the program, give the same text for every number. No conditions. -/
import Derived.Test.YtfkeggikdeenbaaPFnExactExampleTextx1
namespace Go.Proofs.Ytfkeggikdeenbaa.Pure
open Go.RowKit Go.Proofs.Ytfkeggikdeenbaa.PFnExactExampleText Go.Proofs.YtfkeggikdeenbaaW.PrintWords Go.Proofs.YtfkeggikdeenbaaW.PrintLast

theorem same_ExampleText (a0 : Int) : impl_ExampleText.f a0 = spec_ExampleText.f a0 := rfl

theorem some_ExampleText (a0 : Int) : ∃ r, spec_ExampleText.f a0 = some r := by
  unfold spec_ExampleText.f
  repeat (first | exact ⟨_, rfl⟩ | split)

theorem FnExactExampleText : laws_FnExactExampleText.Pure := by
  intro a0 _
  obtain ⟨r, hr⟩ := some_ExampleText a0
  unfold laws_FnExactExampleText.f
  simp [same_ExampleText, hr]

end Go.Proofs.Ytfkeggikdeenbaa.Pure
