/- Places of a flow, functions, numbers, read. -/
import Derived.Test.YtoifckjdnldlpaaZM3
set_option linter.unusedVariables false
set_option linter.unusedSimpArgs false
namespace Am
open Go Go.RowKit Go.WideShapes Go.ChangeShapes Go.Proofs
section
variable {H : Type} {enc : TypeId × Value → H} {W : World} {sp : Nat → Bool}
theorem rr3 : Try.prog.readableRec 3 = true := by kernel_rfl
end
end Am
