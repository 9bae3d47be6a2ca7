/- FlowReached, FlowAt: the laws answer true. -/
import Derived.Test.YtoifckjdnldlpaaZFp
import Derived.Test.YtoifckjdnldlpaaZM5
set_option linter.unusedVariables false
set_option linter.unusedSimpArgs false
namespace Am
open Go Go.Proofs.Try
end Am
