/- Schemes, read. -/
import Derived.Test.YtoifckjdnldlpaaZM2
import Derived.Test.YtoifckjdnldlpaaZJ2
set_option linter.unusedVariables false
set_option linter.unusedSimpArgs false
namespace Am
open Go Go.RowKit Go.WideShapes Go.ChangeShapes Go.Proofs
section
variable {H : Type} {enc : TypeId × Value → H} {W : World} {sp : Nat → Bool}
theorem cells54 : Try.prog.cellsOf 54 = 1 := by kernel_rfl
theorem cells56 : Try.prog.cellsOf 56 = 2 := by kernel_rfl
theorem cells70 : Try.prog.cellsOf 70 = 5 := by kernel_rfl
theorem rr56 : Try.prog.readableRec 56 = true := by kernel_rfl
theorem rd_fun (n : Nat) : Rds enc Try.prog W sp n 70 Fn fnC :=
  Rds.map (rds_struct3 (e0 := fun s => [S s]) (e1 := fun s : Srt => [srC s]) (e2 := tmC) Try.underlying70 rfl rfl rfl cells9 cells37 cells35 cells70 (fun m _ => rds_string Try.underlying9 m) (fun m _ => rd_sort m) fun m _ => rd_term m)
    (fun p => ⟨p.1, p.2.1, p.2.2⟩) fun p => by
      obtain ⟨a, b, ⟨l, us⟩⟩ := p
      rfl
end
end Am
