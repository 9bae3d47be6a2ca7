/- TermOwn: for every input the law returns true, and each argument reads behind the call as it read before. -/
import Derived.Test.YtoifckjdnldlpaaM0
import Derived.Test.YtoifckjdnldlpaaM2
import Derived.Test.YtoifckjdnldlpaaLt
set_option linter.unusedVariables false
set_option linter.unusedSimpArgs false
namespace Go.Proofs.Ytoifckjdnldlpaa
open Am Go.RowKit Go.ChangeShapes Go.WideShapes Go.ChangeAt
set_option maxRecDepth 100000 in
theorem termOwn_lifted (os : Os) (started : os.Started) (H : Type) (enc : TypeId × Value → H) :
    ReturnsInHanded {} Try.checked os 19 .any (Rows.termOwnSpec.pre6 enc Try.prog Try.f19 Rows.termOwnRow.domain false) (Rows.termOwnSpec.post enc Try.prog Try.f19 false true false false) := by
  refine returnsInHanded_of_change_sized (C := Try.checked) own started (by kernel_rfl) Try.func19
    (ChangeSpec.witness6 (enc := enc) (C := Try.checked) false ⟨#[], #[.agg #[.slice none 0 0, .slice none 0 0, .slice none 0 0], .agg #[.int .i64 0, .int .i64 0, .slice none 0 0], .slice none 0 0], []⟩ 8 (by kernel_rfl) (by kernel_rfl) (by kernel_rfl) (by kernel_rfl)) ?_
  intro W base args ds gs before hval0 hW hcnd hwt0 _
  have hval : ∀ (j : Nat) t v, Try.f19.params[j]? = some t → args[j]? = some v → Value.okWide Try.prog W .any base t v := hval0
  have hwt1 : (DataW.weightsEach Try.prog (Try.f19.params.toList ++ []) (ds ++ gs)).all (· ≤ reachBytes) = true := hwt0
  have hW0 : DataW.Whole enc Try.prog Try.f19.params.toList Rows.termOwnSpec.vars false W args.toList ds gs before := hW
  obtain ⟨p, q, hA, hV, _, _, _⟩ := hW0
  have hg : gs = [] := by
    cases gs with
    | nil => rfl
    | cons _ _ => exact hV.elim
  subst hg
  rw [Try.params19] at hA hval hwt1
  have hwt : (DataW.weightsEach Try.prog [25, 35, 33] ds).all (· ≤ reachBytes) = true := by simpa using hwt1
  obtain ⟨v0, v1, v2, d0, d1, d2, p0, p1, p2, rfl, rfl, rfl, h0, h1, h2⟩ := trodAll_three hA
  obtain ⟨a0, r0⟩ := arg_agg Try.underlying25 (hval 0 25 v0 rfl rfl) h0 rd_place
  obtain ⟨a1, r1⟩ := arg_agg Try.underlying35 (hval 1 35 v1 rfl rfl) h1 rd_term
  obtain ⟨a2, r2, l2⟩ := arg_terms (hval 2 33 v2 rfl rfl) h2 hwt (j := 2) rfl rfl
  refine (row_calls (args := [pl a0, tm a1, .rs 3 (tmCs a2)]) (law_TermOwn a0 a1 a2 l2 rfl) rfl (fun j hj => by
    match j, hj with
    | 0, _ => exact r0
    | 1, _ => exact r1
    | 2, _ => exact r2)).mono fun e W' ⟨he, hb⟩ => ?_
  subst he
  refine ⟨_, rfl, law_post (P := Try.prog) (tb := 4) laidOut (fun t ht => ?_) rfl (by kernel_rfl) Try.underlying4 (fun ds hd => ?_) hW hb⟩
  · have ht' : t ∈ Try.f19.params.toList := ht
    rw [Try.params19] at ht'
    simp only [List.mem_cons, List.not_mem_nil, or_false] at ht'
    rcases ht' with rfl | rfl | rfl
    · exact ⟨rr25, of_decide_eq_true (by kernel_rfl)⟩
    · exact ⟨rr35, of_decide_eq_true (by kernel_rfl)⟩
    · exact ⟨rr33, of_decide_eq_true (by kernel_rfl)⟩
  · have hd' : ds.length = Try.f19.params.size := hd
    rw [Try.params19] at hd'
    match ds, hd' with
    | [d0, d1, d2], _ => exact ⟨rfl, rfl, rfl⟩
theorem termOwn_holds : Rows.TermOwnSaid :=
  OpenClaim.holds_of_wide 19 Try.f19 rfl rfl rfl rfl rfl rfl rfl ⟨rfl, rfl, rfl, rfl, rfl⟩ rfl rfl rfl rfl rfl (by kernel_rfl) Try.func19 (by unfold joinedFacts; rw [mayEnterP, liftsFinalP, makeP]; kernel_rfl)
    (of_decide_eq_true (by kernel_rfl)) (by unfold Func.isWrapper; first | (rw [if_pos (by decide +kernel)]; kernel_rfl) | (rw [if_neg (by decide +kernel)]; exact ⟨rfl, rfl⟩))
    (fun os started H enc _ => termOwn_lifted os started H enc)
#print axioms termOwn_holds
end Go.Proofs.Ytoifckjdnldlpaa
