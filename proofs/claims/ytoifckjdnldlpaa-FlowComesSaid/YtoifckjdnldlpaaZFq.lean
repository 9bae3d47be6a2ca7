/- FlowReached, FlowAt: the laws answer true. -/
import Derived.Test.YtoifckjdnldlpaaZFp
import Derived.Test.YtoifckjdnldlpaaZM5
set_option linter.unusedVariables false
set_option linter.unusedSimpArgs false
namespace Am
open Go Go.Proofs.Try
theorem pre_get {s : Sch} {p : Pc} (hp : okP s p) : (preT_ (s.funs.getD p.1 default).body)[p.2]? = some (ndS s p).1 := by
  rw [← ndF_fst _ 0, List.getElem?_map, ndS_get hp]; rfl
end Am
