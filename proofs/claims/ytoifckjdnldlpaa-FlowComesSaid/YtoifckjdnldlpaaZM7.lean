/- Numbers, read. -/
import Derived.Test.YtoifckjdnldlpaaZM6
set_option linter.unusedVariables false
set_option linter.unusedSimpArgs false
namespace Am
open Go Go.RowKit Go.WideShapes Go.ChangeShapes Go.Proofs
section
variable {H : Type} {enc : TypeId × Value → H} {W : World} {sp : Nat → Bool}
theorem okWide_int {P : Program} {t : TypeId} {k : IntKind} (ht : P.underlying t = some (.int k)) {b0 : Nat} {v : Value} (h : Value.okWide P W .any b0 t v) : ∀ cs, v ≠ .agg cs := by
  intro cs hv
  subst hv
  simp [Value.okWide, ht, Cell.okWide, Cell.ok] at h
set_option maxRecDepth 20000 in
theorem arg_int {b0 : Nat} {v : Value} {d : DataW H} {p : List MemPlace} (hval : Value.okWide Try.prog W .any b0 3 v) (h : DataW.Trod enc Try.prog W 0 sp true 3 v d p) : ∃ n : Int, Rep W (C0 W) (I n) v := by
  obtain ⟨m, h⟩ := h
  obtain ⟨a, h1⟩ := rds_int Try.underlying3 m _ _ h
  obtain ⟨u, h3, h4⟩ := h1.one
  have hv : v = u := by
    have hna := okWide_int Try.underlying3 hval
    cases v <;> first | exact absurd rfl (hna _) | (simp [Value.cells] at h3; exact h3)
  subst hv
  exact ⟨a, h4⟩
end
end Am
