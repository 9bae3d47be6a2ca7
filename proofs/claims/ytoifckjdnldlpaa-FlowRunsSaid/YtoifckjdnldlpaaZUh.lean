/- The reference's lists of nodes, and what is reached. -/
import Derived.Test.YtoifckjdnldlpaaZUe
set_option linter.unusedVariables false
set_option linter.unusedSimpArgs false
namespace Am
open Go Go.Proofs.Try
end Am
