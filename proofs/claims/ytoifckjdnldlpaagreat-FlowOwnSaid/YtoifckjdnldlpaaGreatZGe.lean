/- The reference's Flow; FlowSets answers true. -/
import Derived.Test.YtoifckjdnldlpaaGreatZGa
import Derived.Test.YtoifckjdnldlpaaGreatZFt
set_option linter.unusedVariables false
set_option linter.unusedSimpArgs false
namespace Am
open Go Go.Proofs.Tryz
section
variable {hb h : Heap} {s : Sch} {l : Lo} {bl : List Bool}
end
end Am
