/- FlowComes: for every input the law returns true, and each argument reads behind the call as it read before. -/
import Derived.Test.YtoifckjdnldlpaaZM0
import Derived.Test.YtoifckjdnldlpaaZM2
import Derived.Test.YtoifckjdnldlpaaZM7
import Derived.Test.YtoifckjdnldlpaaZGh
set_option linter.unusedVariables false
set_option linter.unusedSimpArgs false
namespace Go.Proofs.Ytoifckjdnldlpaa
open Am Go.RowKit Go.ChangeShapes Go.WideShapes Go.ChangeAt
set_option maxRecDepth 100000 in
theorem flowComes_lifted (os : Os) (started : os.Started) (H : Type) (enc : TypeId × Value → H) :
    ReturnsInHanded {} Try.checked os 25 .any (Rows.flowComesSpec.pre6 enc Try.prog Try.f25 Rows.flowComesRow.domain false) (Rows.flowComesSpec.post enc Try.prog Try.f25 false true false false) := by
  refine returnsInHanded_of_change_sized (C := Try.checked) own started (by kernel_rfl) Try.func25
    (ChangeSpec.witness6 (enc := enc) (C := Try.checked) false ⟨#[], #[.agg #[.slice none 0 0, .slice none 0 0], .int .i64 0, .int .i64 0, .agg #[.int .i64 0, .int .i64 0, .slice none 0 0]], []⟩ 8 (by kernel_rfl) (by kernel_rfl) (by kernel_rfl) (by kernel_rfl)) ?_
  intro W base args ds gs before hval0 hW hcnd hwt0 _
  have hval : ∀ (j : Nat) t v, Try.f25.params[j]? = some t → args[j]? = some v → Value.okWide Try.prog W .any base t v := hval0
  have hwt1 : (DataW.weightsEach Try.prog (Try.f25.params.toList ++ []) (ds ++ gs)).all (· ≤ reachBytes) = true := hwt0
  have hW0 : DataW.Whole enc Try.prog Try.f25.params.toList Rows.flowComesSpec.vars false W args.toList ds gs before := hW
  obtain ⟨p, q, hA, hV, _, _, _⟩ := hW0
  have hg : gs = [] := by
    cases gs with
    | nil => rfl
    | cons _ _ => exact hV.elim
  subst hg
  rw [Try.params25] at hA hval hwt1
  have hwt : (DataW.weightsEach Try.prog [56, 3, 3, 35] ds).all (· ≤ reachBytes) = true := by simpa using hwt1
  obtain ⟨v0, v1, v2, v3, d0, d1, d2, d3, p0, p1, p2, p3, rfl, rfl, rfl, h0, h1, h2, h3⟩ := trodAll_four hA
  obtain ⟨a0, r0⟩ := arg_agg Try.underlying56 (hval 0 56 v0 rfl rfl) h0 rd_scheme
  obtain ⟨a1, r1⟩ := arg_int (hval 1 3 v1 rfl rfl) h1
  obtain ⟨a2, r2⟩ := arg_int (hval 2 3 v2 rfl rfl) h2
  obtain ⟨a3, r3⟩ := arg_agg Try.underlying35 (hval 3 35 v3 rfl rfl) h3 rd_term
  refine (row_calls (args := [sm a0, I a1, I a2, tm a3]) (law_FlowComes a0 a1 a2 a3 (fun _ => rfl)) rfl (fun j hj => by
    match j, hj with
    | 0, _ => exact r0
    | 1, _ => exact r1
    | 2, _ => exact r2
    | 3, _ => exact r3)).mono fun e W' ⟨he, hb⟩ => ?_
  subst he
  refine ⟨_, rfl, law_post (P := Try.prog) (tb := 4) laidOut (fun t ht => ?_) rfl (by kernel_rfl) Try.underlying4 (fun ds hd => ?_) hW hb⟩
  · have ht' : t ∈ Try.f25.params.toList := ht
    rw [Try.params25] at ht'
    simp only [List.mem_cons, List.not_mem_nil, or_false] at ht'
    rcases ht' with rfl | rfl | rfl | rfl
    · exact ⟨rr56, of_decide_eq_true (by kernel_rfl)⟩
    · exact ⟨rr3, of_decide_eq_true (by kernel_rfl)⟩
    · exact ⟨rr3, of_decide_eq_true (by kernel_rfl)⟩
    · exact ⟨rr35, of_decide_eq_true (by kernel_rfl)⟩
  · have hd' : ds.length = Try.f25.params.size := hd
    rw [Try.params25] at hd'
    match ds, hd' with
    | [d0, d1, d2, d3], _ => exact ⟨rfl, rfl, rfl⟩
theorem flowComes_holds : Rows.FlowComesSaid :=
  OpenClaim.holds_of_wide 25 Try.f25 rfl rfl rfl rfl rfl rfl rfl ⟨rfl, rfl, rfl, rfl, rfl⟩ rfl rfl rfl rfl rfl (by kernel_rfl) Try.func25 (by unfold joinedFacts; rw [mayEnterP, liftsFinalP, makeP]; kernel_rfl)
    (of_decide_eq_true (by kernel_rfl)) (by unfold Func.isWrapper; first | (rw [if_pos (by decide +kernel)]; kernel_rfl) | (rw [if_neg (by decide +kernel)]; exact ⟨rfl, rfl⟩))
    (fun os started H enc _ => flowComes_lifted os started H enc)
#print axioms flowComes_holds
end Go.Proofs.Ytoifckjdnldlpaa
