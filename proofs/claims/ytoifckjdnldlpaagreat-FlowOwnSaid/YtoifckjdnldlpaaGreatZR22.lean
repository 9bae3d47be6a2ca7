/- FlowOwn: for every input the law returns true, and each argument reads behind the call as it read before. -/
import Derived.Test.YtoifckjdnldlpaaGreatZM0
import Derived.Test.YtoifckjdnldlpaaGreatZM2
import Derived.Test.YtoifckjdnldlpaaGreatZM6
import Derived.Test.YtoifckjdnldlpaaGreatZM5
import Derived.Test.YtoifckjdnldlpaaGreatZHb
set_option linter.unusedVariables false
set_option linter.unusedSimpArgs false
namespace Go.Proofs.YtoifckjdnldlpaaGreat
open Am Go.RowKit Go.ChangeShapes Go.WideShapes Go.ChangeAt
set_option maxRecDepth 100000 in
theorem flowOwn_lifted (os : Os) (started : os.Started) (H : Type) (enc : TypeId × Value → H) :
    ReturnsInHanded {} Tryz.checked os 6 .any (Rows.flowOwnSpec.pre6 enc Tryz.prog Tryz.f6 Rows.flowOwnRow.domain false) (Rows.flowOwnSpec.post enc Tryz.prog Tryz.f6 false true false false) := by
  refine returnsInHanded_of_change_sized (C := Tryz.checked) own started (by kernel_rfl) Tryz.func6
    (ChangeSpec.witness6 (enc := enc) (C := Tryz.checked) false ⟨#[], #[.agg #[.slice none 0 0, .slice none 0 0], .agg #[.int .i64 0, .int .i64 0], .agg #[.int .i64 0, .int .i64 0, .slice none 0 0]], []⟩ 8 (by kernel_rfl) (by kernel_rfl) (by kernel_rfl) (by kernel_rfl)) ?_
  intro W base args ds gs before hval0 hW hcnd hwt0 _
  have hval : ∀ (j : Nat) t v, Tryz.f6.params[j]? = some t → args[j]? = some v → Value.okWide Tryz.prog W .any base t v := hval0
  have hwt1 : (DataW.weightsEach Tryz.prog (Tryz.f6.params.toList ++ []) (ds ++ gs)).all (· ≤ reachBytes) = true := hwt0
  have hW0 : DataW.Whole enc Tryz.prog Tryz.f6.params.toList Rows.flowOwnSpec.vars false W args.toList ds gs before := hW
  obtain ⟨p, q, hA, hV, _, _, _⟩ := hW0
  have hg : gs = [] := by
    cases gs with
    | nil => rfl
    | cons _ _ => exact hV.elim
  subst hg
  rw [Tryz.params6] at hA hval hwt1
  have hwt : (DataW.weightsEach Tryz.prog [25, 42, 52] ds).all (· ≤ reachBytes) = true := by simpa using hwt1
  obtain ⟨v0, v1, v2, d0, d1, d2, p0, p1, p2, rfl, rfl, rfl, h0, h1, h2⟩ := trodAll_three hA
  obtain ⟨a0, r0⟩ := arg_agg Tryz.underlying25 (hval 0 25 v0 rfl rfl) h0 rd_scheme
  obtain ⟨a1, r1⟩ := arg_agg Tryz.underlying42 (hval 1 42 v1 rfl rfl) h1 rd_pc
  obtain ⟨a2, r2⟩ := arg_agg Tryz.underlying52 (hval 2 52 v2 rfl rfl) h2 rd_term
  refine (row_calls (args := [sm a0, plI a1, tm a2]) (law_FlowOwn a0 a1 a2 (fun _ => rfl)) rfl (fun j hj => by
    match j, hj with
    | 0, _ => exact r0
    | 1, _ => exact r1
    | 2, _ => exact r2)).mono fun e W' ⟨he, hb⟩ => ?_
  subst he
  refine ⟨_, rfl, law_post (P := Tryz.prog) (tb := 4) laidOut (fun t ht => ?_) rfl (by kernel_rfl) Tryz.underlying4 (fun ds hd => ?_) hW hb⟩
  · have ht' : t ∈ Tryz.f6.params.toList := ht
    rw [Tryz.params6] at ht'
    simp only [List.mem_cons, List.not_mem_nil, or_false] at ht'
    rcases ht' with rfl | rfl | rfl
    · exact ⟨rr25, of_decide_eq_true (by kernel_rfl)⟩
    · exact ⟨rr42, of_decide_eq_true (by kernel_rfl)⟩
    · exact ⟨rr52, of_decide_eq_true (by kernel_rfl)⟩
  · have hd' : ds.length = Tryz.f6.params.size := hd
    rw [Tryz.params6] at hd'
    match ds, hd' with
    | [d0, d1, d2], _ => exact ⟨rfl, rfl, rfl⟩
theorem flowOwn_holds : Rows.FlowOwnSaid :=
  OpenClaim.holds_of_wide 6 Tryz.f6 rfl rfl rfl rfl rfl rfl rfl ⟨rfl, rfl, rfl, rfl, rfl⟩ rfl rfl rfl rfl rfl (by kernel_rfl) Tryz.func6 (by unfold joinedFacts; rw [mayEnterP, liftsFinalP, makeP]; kernel_rfl)
    (of_decide_eq_true (by kernel_rfl)) (by unfold Func.isWrapper; first | (rw [if_pos (by decide +kernel)]; kernel_rfl) | (rw [if_neg (by decide +kernel)]; exact ⟨rfl, rfl⟩))
    (fun os started H enc _ => flowOwn_lifted os started H enc)
#print axioms flowOwn_holds
end Go.Proofs.YtoifckjdnldlpaaGreat
