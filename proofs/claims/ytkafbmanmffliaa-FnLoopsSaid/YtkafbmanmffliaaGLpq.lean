/- Parts of the proof that the law of this seat holds: Fx. -/
import Derived.Test.YtkafbmanmffliaaRows
import Derived.Test.YtkafbmanmffliaaGLpa
import Derived.Test.YtkafbmanmffliaaGLpp
set_option linter.unusedVariables false
set_option linter.unusedSimpArgs false
/- What a row asks of the whole program and what is dear to compute: once. -/
namespace Go.Proofs.Ytkafbmanmffliaa.Fx
open Go.ChangeShapes Go.WideShapes Go.ChangeAt Go.RowKit
theorem lift : Try.prog.liftsFinal = false := by kernel_rfl
theorem enter : Try.prog.mayEnter = true := by kernel_rfl
theorem make : Try.prog.make = some Rows.fnExactAdjustSurveyRow.make := by kernel_rfl
end Go.Proofs.Ytkafbmanmffliaa.Fx

