/- Schemes, read. -/
import Derived.Test.YtoifckjdnldlpaaZM2
import Derived.Test.YtoifckjdnldlpaaZJ2
set_option linter.unusedVariables false
set_option linter.unusedSimpArgs false
namespace Am
open Go Go.RowKit Go.WideShapes Go.ChangeShapes Go.Proofs
section
variable {H : Type} {enc : TypeId × Value → H} {W : World} {sp : Nat → Bool}
theorem cells54 : Try.prog.cellsOf 54 = 1 := by kernel_rfl
theorem cells56 : Try.prog.cellsOf 56 = 2 := by kernel_rfl
theorem cells70 : Try.prog.cellsOf 70 = 5 := by kernel_rfl
theorem rr56 : Try.prog.readableRec 56 = true := by kernel_rfl
theorem rd_fun (n : Nat) : Rds enc Try.prog W sp n 70 Fn fnC :=
  Rds.map (rds_struct3 (e0 := fun s => [S s]) (e1 := fun s : Srt => [srC s]) (e2 := tmC) Try.underlying70 rfl rfl rfl cells9 cells37 cells35 cells70 (fun m _ => rds_string Try.underlying9 m) (fun m _ => rd_sort m) fun m _ => rd_term m)
    (fun p => ⟨p.1, p.2.1, p.2.2⟩) fun p => by
      obtain ⟨a, b, ⟨l, us⟩⟩ := p
      rfl
theorem rd_funs (n : Nat) : Rds enc Try.prog W sp n 54 (List Fn) (fun l => [.rs 5 (fnCs l)]) :=
  Rds.map (rds_slice Try.underlying54 cells70 (en := fnC) (fun _ => rfl) (by omega) fun k _ => rd_fun k) id fun l => rfl
theorem rd_scheme (n : Nat) : Rds enc Try.prog W sp n 56 Sch (fun s => [.rs 2 (syCs s.syms), .rs 5 (fnCs s.funs)]) :=
  Rds.map (rds_struct2 (e0 := fun l : List Sy => [.rs 2 (syCs l)]) (e1 := fun l : List Fn => [.rs 5 (fnCs l)]) Try.underlying56 rfl rfl cells22 cells54 cells56 (fun m _ => rd_syms m) fun m _ => rd_funs m)
    (fun p => ⟨p.1, p.2⟩) fun p => rfl
end
end Am
