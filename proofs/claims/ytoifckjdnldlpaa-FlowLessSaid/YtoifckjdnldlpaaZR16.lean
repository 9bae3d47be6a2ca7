/- FlowLess: for every input the law returns true, and each argument reads behind the call as it read before. -/
import Derived.Test.YtoifckjdnldlpaaZM0
import Derived.Test.YtoifckjdnldlpaaZM2
import Derived.Test.YtoifckjdnldlpaaZFr
set_option linter.unusedVariables false
set_option linter.unusedSimpArgs false
namespace Go.Proofs.Ytoifckjdnldlpaa
open Am Go.RowKit Go.ChangeShapes Go.WideShapes Go.ChangeAt
set_option maxRecDepth 100000 in
theorem flowLess_lifted (os : Os) (started : os.Started) (H : Type) (enc : TypeId × Value → H) :
    ReturnsInHanded {} Try.checked os 22 .any (Rows.flowLessSpec.pre6 enc Try.prog Try.f22 Rows.flowLessRow.domain false) (Rows.flowLessSpec.post enc Try.prog Try.f22 false true false false) := by
  refine returnsInHanded_of_change_sized (C := Try.checked) own started (by kernel_rfl) Try.func22
    (ChangeSpec.witness6 (enc := enc) (C := Try.checked) false ⟨#[], #[.agg #[.slice none 0 0, .slice none 0 0], .agg #[.string ⟨#[]⟩, .slice none 0 0, .int .i64 0, .int .i64 0, .slice none 0 0]], []⟩ 8 (by kernel_rfl) (by kernel_rfl) (by kernel_rfl) (by kernel_rfl)) ?_
  intro W base args ds gs before hval0 hW hcnd hwt0 _
  have hval : ∀ (j : Nat) t v, Try.f22.params[j]? = some t → args[j]? = some v → Value.okWide Try.prog W .any base t v := hval0
  have hwt1 : (DataW.weightsEach Try.prog (Try.f22.params.toList ++ []) (ds ++ gs)).all (· ≤ reachBytes) = true := hwt0
  have hW0 : DataW.Whole enc Try.prog Try.f22.params.toList Rows.flowLessSpec.vars false W args.toList ds gs before := hW
  obtain ⟨p, q, hA, hV, _, _, _⟩ := hW0
  have hg : gs = [] := by
    cases gs with
    | nil => rfl
    | cons _ _ => exact hV.elim
  subst hg
  rw [Try.params22] at hA hval hwt1
  have hwt : (DataW.weightsEach Try.prog [56, 70] ds).all (· ≤ reachBytes) = true := by simpa using hwt1
  obtain ⟨v0, v1, d0, d1, p0, p1, rfl, rfl, rfl, h0, h1⟩ := trodAll_two hA
  obtain ⟨a0, r0, l0⟩ := arg_scheme (hval 0 56 v0 rfl rfl) h0 hwt (j := 0) rfl rfl
  obtain ⟨a1, r1⟩ := arg_agg Try.underlying70 (hval 1 70 v1 rfl rfl) h1 rd_fun
  refine (row_calls (args := [sm a0, fnA a1]) (law_FlowLess a0 a1 l0 (fun _ => rfl)) rfl (fun j hj => by
    match j, hj with
    | 0, _ => exact r0
    | 1, _ => exact r1)).mono fun e W' ⟨he, hb⟩ => ?_
  subst he
  refine ⟨_, rfl, law_post (P := Try.prog) (tb := 4) laidOut (fun t ht => ?_) rfl (by kernel_rfl) Try.underlying4 (fun ds hd => ?_) hW hb⟩
  · have ht' : t ∈ Try.f22.params.toList := ht
    rw [Try.params22] at ht'
    simp only [List.mem_cons, List.not_mem_nil, or_false] at ht'
    rcases ht' with rfl | rfl
    · exact ⟨rr56, of_decide_eq_true (by kernel_rfl)⟩
    · exact ⟨rr70, of_decide_eq_true (by kernel_rfl)⟩
  · have hd' : ds.length = Try.f22.params.size := hd
    rw [Try.params22] at hd'
    match ds, hd' with
    | [d0, d1], _ => exact ⟨rfl, rfl, rfl⟩
theorem flowLess_holds : Rows.FlowLessSaid :=
  OpenClaim.holds_of_wide 22 Try.f22 rfl rfl rfl rfl rfl rfl rfl ⟨rfl, rfl, rfl, rfl, rfl⟩ rfl rfl rfl rfl rfl (by kernel_rfl) Try.func22 (by unfold joinedFacts; rw [mayEnterP, liftsFinalP, makeP]; kernel_rfl)
    (of_decide_eq_true (by kernel_rfl)) (by unfold Func.isWrapper; first | (rw [if_pos (by decide +kernel)]; kernel_rfl) | (rw [if_neg (by decide +kernel)]; exact ⟨rfl, rfl⟩))
    (fun os started H enc _ => flowLess_lifted os started H enc)
#print axioms flowLess_holds
end Go.Proofs.Ytoifckjdnldlpaa
