/- FlowRuns: for every input the law returns true, and each argument reads behind the call as it read before. -/
import Derived.Test.YtoifckjdnldlpaaZM0
import Derived.Test.YtoifckjdnldlpaaZM2
import Derived.Test.YtoifckjdnldlpaaZGj
set_option linter.unusedVariables false
set_option linter.unusedSimpArgs false
namespace Go.Proofs.Ytoifckjdnldlpaa
open Am Go.RowKit Go.ChangeShapes Go.WideShapes Go.ChangeAt
set_option maxRecDepth 100000 in
theorem flowRuns_lifted (os : Os) (started : os.Started) (H : Type) (enc : TypeId × Value → H) :
    ReturnsInHanded {} Try.checked os 26 .any (Rows.flowRunsSpec.pre6 enc Try.prog Try.f26 Rows.flowRunsRow.domain false) (Rows.flowRunsSpec.post enc Try.prog Try.f26 false true false false) := by
  refine returnsInHanded_of_change_sized (C := Try.checked) own started (by kernel_rfl) Try.func26
    (ChangeSpec.witness6 (enc := enc) (C := Try.checked) false ⟨#[], #[.agg #[.slice none 0 0, .slice none 0 0]], []⟩ 8 (by kernel_rfl) (by kernel_rfl) (by kernel_rfl) (by kernel_rfl)) ?_
  intro W base args ds gs before hval0 hW hcnd hwt0 _
  have hval : ∀ (j : Nat) t v, Try.f26.params[j]? = some t → args[j]? = some v → Value.okWide Try.prog W .any base t v := hval0
  have hwt1 : (DataW.weightsEach Try.prog (Try.f26.params.toList ++ []) (ds ++ gs)).all (· ≤ reachBytes) = true := hwt0
  have hW0 : DataW.Whole enc Try.prog Try.f26.params.toList Rows.flowRunsSpec.vars false W args.toList ds gs before := hW
  obtain ⟨p, q, hA, hV, _, _, _⟩ := hW0
  have hg : gs = [] := by
    cases gs with
    | nil => rfl
    | cons _ _ => exact hV.elim
  subst hg
  rw [Try.params26] at hA hval hwt1
  have hwt : (DataW.weightsEach Try.prog [56] ds).all (· ≤ reachBytes) = true := by simpa using hwt1
  obtain ⟨v0, d0, rfl, rfl, h0⟩ := trodAll_one hA
  obtain ⟨a0, r0⟩ := arg_agg Try.underlying56 (hval 0 56 v0 rfl rfl) h0 rd_scheme
  refine (row_calls (args := [sm a0]) (law_FlowRuns a0 (fun _ => rfl)) rfl (fun j hj => by
    match j, hj with
    | 0, _ => exact r0)).mono fun e W' ⟨he, hb⟩ => ?_
  subst he
  refine ⟨_, rfl, law_post (P := Try.prog) (tb := 4) laidOut (fun t ht => ?_) rfl (by kernel_rfl) Try.underlying4 (fun ds hd => ?_) hW hb⟩
  · have ht' : t ∈ Try.f26.params.toList := ht
    rw [Try.params26] at ht'
    simp only [List.mem_cons, List.not_mem_nil, or_false] at ht'
    rcases ht' with rfl
    · exact ⟨rr56, of_decide_eq_true (by kernel_rfl)⟩
  · have hd' : ds.length = Try.f26.params.size := hd
    rw [Try.params26] at hd'
    match ds, hd' with
    | [d0], _ => exact ⟨rfl, rfl, rfl⟩
theorem flowRuns_holds : Rows.FlowRunsSaid :=
  OpenClaim.holds_of_wide 26 Try.f26 rfl rfl rfl rfl rfl rfl rfl ⟨rfl, rfl, rfl, rfl, rfl⟩ rfl rfl rfl rfl rfl (by kernel_rfl) Try.func26 (by unfold joinedFacts; rw [mayEnterP, liftsFinalP, makeP]; kernel_rfl)
    (of_decide_eq_true (by kernel_rfl)) (by unfold Func.isWrapper; first | (rw [if_pos (by decide +kernel)]; kernel_rfl) | (rw [if_neg (by decide +kernel)]; exact ⟨rfl, rfl⟩))
    (fun os started H enc _ => flowRuns_lifted os started H enc)
#print axioms flowRuns_holds
end Go.Proofs.Ytoifckjdnldlpaa
