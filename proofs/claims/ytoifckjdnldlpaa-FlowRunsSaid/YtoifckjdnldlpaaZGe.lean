/- The reference's Flow; FlowSets answers true. -/
import Derived.Test.YtoifckjdnldlpaaZGa
import Derived.Test.YtoifckjdnldlpaaZFt
set_option linter.unusedVariables false
set_option linter.unusedSimpArgs false
namespace Am
open Go Go.Proofs.Try
section
variable {hb h : Heap} {s : Sch} {l : Lo} {bl : List Bool}
end
end Am
