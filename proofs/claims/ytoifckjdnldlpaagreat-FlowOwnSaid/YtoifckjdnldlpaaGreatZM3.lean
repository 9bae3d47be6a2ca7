/- Schemes, read. -/
import Derived.Test.YtoifckjdnldlpaaGreatZM2
import Derived.Test.YtoifckjdnldlpaaGreatZJ2
set_option linter.unusedVariables false
set_option linter.unusedSimpArgs false
namespace Am
open Go Go.RowKit Go.WideShapes Go.ChangeShapes Go.Proofs
section
variable {H : Type} {enc : TypeId × Value → H} {W : World} {sp : Nat → Bool}
theorem cells23 : Tryz.prog.cellsOf 23 = 1 := by kernel_rfl
theorem cells25 : Tryz.prog.cellsOf 25 = 2 := by kernel_rfl
theorem cells73 : Tryz.prog.cellsOf 73 = 5 := by kernel_rfl
theorem rr25 : Tryz.prog.readableRec 25 = true := by kernel_rfl
theorem rd_fun (n : Nat) : Rds enc Tryz.prog W sp n 73 Fn fnC :=
  Rds.map (rds_struct3 (e0 := fun s => [S s]) (e1 := fun s : Srt => [srC s]) (e2 := tmC) Tryz.underlying73 rfl rfl rfl cells9 cells71 cells52 cells73 (fun m _ => rds_string Tryz.underlying9 m) (fun m _ => rd_sort m) fun m _ => rd_term m)
    (fun p => ⟨p.1, p.2.1, p.2.2⟩) fun p => by
      obtain ⟨a, b, ⟨l, us⟩⟩ := p
      rfl
theorem rd_funs (n : Nat) : Rds enc Tryz.prog W sp n 23 (List Fn) (fun l => [.rs 5 (fnCs l)]) :=
  Rds.map (rds_slice Tryz.underlying23 cells73 (en := fnC) (fun _ => rfl) (by omega) fun k _ => rd_fun k) id fun l => rfl
theorem rd_scheme (n : Nat) : Rds enc Tryz.prog W sp n 25 Sch (fun s => [.rs 2 (syCs s.syms), .rs 5 (fnCs s.funs)]) :=
  Rds.map (rds_struct2 (e0 := fun l : List Sy => [.rs 2 (syCs l)]) (e1 := fun l : List Fn => [.rs 5 (fnCs l)]) Tryz.underlying25 rfl rfl cells22 cells23 cells25 (fun m _ => rd_syms m) fun m _ => rd_funs m)
    (fun p => ⟨p.1, p.2⟩) fun p => rfl
end
end Am
