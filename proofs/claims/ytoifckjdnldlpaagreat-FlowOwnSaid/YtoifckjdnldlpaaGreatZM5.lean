/- Places of a flow, functions, numbers, read. -/
import Derived.Test.YtoifckjdnldlpaaGreatZM3
set_option linter.unusedVariables false
set_option linter.unusedSimpArgs false
namespace Am
open Go Go.RowKit Go.WideShapes Go.ChangeShapes Go.Proofs
def plI (p : Int × Int) : AV := .agg [I p.1, I p.2]
section
variable {H : Type} {enc : TypeId × Value → H} {W : World} {sp : Nat → Bool}
theorem cells42 : Tryz.prog.cellsOf 42 = 2 := by kernel_rfl
theorem rr42 : Tryz.prog.readableRec 42 = true := by kernel_rfl
theorem rd_pc (n : Nat) : Rds enc Tryz.prog W sp n 42 (Int × Int) (fun p => [I p.1, I p.2]) :=
  Rds.map (rds_struct2 (e0 := fun i => [I i]) (e1 := fun i => [I i]) Tryz.underlying42 rfl rfl cells3 cells3 cells42 (fun m _ => rds_int Tryz.underlying3 m) (fun m _ => rds_int Tryz.underlying3 m)) id fun s => rfl
end
end Am
