/- The program's own types, read. -/
import Derived.Test.YtoifckjdnldlpaaGreatZM0
import Derived.Test.YtoifckjdnldlpaaGreatZM1
import Derived.Test.YtoifckjdnldlpaaGreatZJ1
import Derived.Test.YtoifckjdnldlpaaGreatRows
set_option linter.unusedVariables false
set_option linter.unusedSimpArgs false
namespace Am
open Go Go.RowKit Go.WideShapes Go.ChangeShapes Go.Proofs
section
variable {H : Type} {enc : TypeId × Value → H} {W : World} {sp : Nat → Bool}
theorem cells71 : Tryz.prog.cellsOf 71 = 1 := by kernel_rfl
theorem cells69 : Tryz.prog.cellsOf 69 = 1 := by kernel_rfl
theorem cells52 : Tryz.prog.cellsOf 52 = 3 := by kernel_rfl
theorem cells50 : Tryz.prog.cellsOf 50 = 1 := by kernel_rfl
theorem cells3 : Tryz.prog.cellsOf 3 = 1 := by kernel_rfl
theorem cells9 : Tryz.prog.cellsOf 9 = 1 := by kernel_rfl
theorem cells22 : Tryz.prog.cellsOf 22 = 1 := by kernel_rfl
theorem cells138 : Tryz.prog.cellsOf 138 = 2 := by kernel_rfl
theorem Rds.map {P : Program} {n : Nat} {t : TypeId} {α β : Type} {e : α → List AV} {e' : β → List AV} (h : Rds enc P W sp n t α e) (f : α → β) (hf : ∀ a, e' (f a) = e a) : Rds enc P W sp n t β e' := fun cs x hx => by
  obtain ⟨a, ha⟩ := h cs x hx
  exact ⟨f a, by rw [hf]; exact ha⟩
theorem rd_sort : ∀ n, Rds enc Tryz.prog W sp n 71 Srt (fun s => [srC s]) := by
  intro n
  induction n using Nat.strongRecOn with
  | ind n ih =>
    refine Rds.map (e := fun l : List Srt => [.rs 1 (l.map fun s => [srC s])]) ?_ (fun l => .mk () l) (fun l => by simp [srC, srCs_eq])
    refine rds_struct1 Tryz.underlying71 rfl (by rw [cells71]; exact cells69) fun m hm => ?_
    exact rds_slice Tryz.underlying69 cells71 (fun _ => rfl) (by omega) fun k hk => ih k (by omega)
theorem rd_term : ∀ n, Rds enc Tryz.prog W sp n 52 Tm tmC := by
  intro n
  induction n using Nat.strongRecOn with
  | ind n ih =>
    refine Rds.map (e := fun p : Int × Int × List Tm => [I p.1] ++ [I p.2.1] ++ [.rs 3 (p.2.2.map tmC)]) ?_ (fun p => .mk (p.1, p.2.1) p.2.2) (fun p => by simp [tmC, tmCs_eq])
    refine rds_struct3 (e0 := fun i => [I i]) (e1 := fun i => [I i]) (e2 := fun l : List Tm => [.rs 3 (l.map tmC)]) Tryz.underlying52 rfl rfl rfl cells3 cells3 cells50 cells52 (fun m _ => rds_int Tryz.underlying3 m) (fun m _ => rds_int Tryz.underlying3 m) fun m hm => ?_
    exact rds_slice Tryz.underlying50 cells52 tmC_len (by omega) fun k hk => ih k (by omega)
theorem rd_sym (n : Nat) : Rds enc Tryz.prog W sp n 138 Sy (fun s => [S s.1, I s.2]) :=
  Rds.map (rds_struct2 (e0 := fun s => [S s]) (e1 := fun i => [I i]) Tryz.underlying138 rfl rfl cells9 cells3 cells138 (fun m _ => rds_string Tryz.underlying9 m) (fun m _ => rds_int Tryz.underlying3 m)) id fun s => rfl
theorem rd_syms (n : Nat) : Rds enc Tryz.prog W sp n 22 (List Sy) (fun l => [.rs 2 (syCs l)]) :=
  Rds.map (rds_slice Tryz.underlying22 cells138 (en := fun s : Sy => [S s.1, I s.2]) (fun _ => rfl) (by omega) fun k _ => rd_sym k) id fun l => rfl
theorem arg_agg {P : Program} {t : TypeId} {fs : Array Field} {α : Type} {en : α → List AV} (ht : P.underlying t = some (.struct fs)) {b0 : Nat} {v : Value} {d : DataW H} {p : List MemPlace} (hval : Value.okWide P W .any b0 t v) (h : DataW.Trod enc P W 0 sp true t v d p)
    (R : ∀ n, Rds enc P W sp n t α en) : ∃ a, Rep W (C0 W) (.agg (en a)) v := by
  obtain ⟨cs, rfl, _⟩ := okWide_struct ht hval
  obtain ⟨n, h⟩ := h
  obtain ⟨a, h1, h2⟩ := R n _ _ h
  have h1 : (en a).length = cs.size := by simpa [Value.cells] using h1
  refine ⟨a, .agg cs h1.symm (fun j hj => ?_) (fun j hj => ?_)⟩
  · have := (h2 j hj).1; simpa [Value.cells, Array.getD_eq_getD_getElem?, List.getD_eq_getElem?_getD] using this
  · have := (h2 j hj).2; simpa [g, Value.cells, Array.getD_eq_getD_getElem?, List.getD_eq_getElem?_getD] using this
theorem laidOut : laidOutB Tryz.prog = true := by kernel_rfl
theorem own : ownKnob Tryz.prog.godebug = none := by kernel_rfl
theorem rr52 : Tryz.prog.readableRec 52 = true := by kernel_rfl
end
theorem mayEnterP : Go.Proofs.YtoifckjdnldlpaaGreat.Tryz.pinned.checked.prog.mayEnter = true := mayEnter
theorem liftsFinalP : Go.Proofs.YtoifckjdnldlpaaGreat.Tryz.pinned.checked.prog.liftsFinal = false := liftsFinal
theorem makeP : Go.Proofs.YtoifckjdnldlpaaGreat.Tryz.pinned.checked.prog.make = some .cut := make
end Am
