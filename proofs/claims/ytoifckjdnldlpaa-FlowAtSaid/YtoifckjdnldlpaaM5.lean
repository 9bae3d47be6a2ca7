/- Places of a flow, functions, numbers, read. -/
import Derived.Test.YtoifckjdnldlpaaM3
set_option linter.unusedVariables false
set_option linter.unusedSimpArgs false
namespace Am
open Go Go.RowKit Go.WideShapes Go.ChangeShapes Go.Proofs
def plI (p : Int × Int) : AV := .agg [I p.1, I p.2]
def fnA (f : Fn) : AV := .agg (fnC f)
section
variable {H : Type} {enc : TypeId × Value → H} {W : World} {sp : Nat → Bool}
theorem cells81 : Try.prog.cellsOf 81 = 2 := by kernel_rfl
theorem rr81 : Try.prog.readableRec 81 = true := by kernel_rfl
theorem rr70 : Try.prog.readableRec 70 = true := by kernel_rfl
theorem rr3 : Try.prog.readableRec 3 = true := by kernel_rfl
theorem rd_pc (n : Nat) : Rds enc Try.prog W sp n 81 (Int × Int) (fun p => [I p.1, I p.2]) :=
  Rds.map (rds_struct2 (e0 := fun i => [I i]) (e1 := fun i => [I i]) Try.underlying81 rfl rfl cells3 cells3 cells81 (fun m _ => rds_int Try.underlying3 m) (fun m _ => rds_int Try.underlying3 m)) id fun s => rfl
end
end Am
