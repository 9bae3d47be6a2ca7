/- FlowReached, FlowAt: the laws answer true. -/
import Derived.Test.YtoifckjdnldlpaaGreatZFp
import Derived.Test.YtoifckjdnldlpaaGreatZM5
set_option linter.unusedVariables false
set_option linter.unusedSimpArgs false
namespace Am
open Go Go.Proofs.Tryz
theorem pre_get {s : Sch} {p : Pc} (hp : okP s p) : (preT_ (s.funs.getD p.1 default).body)[p.2]? = some (ndS s p).1 := by
  rw [← ndF_fst _ 0, List.getElem?_map, ndS_get hp]; rfl
theorem vref19_At_c {s : Sch} (H : SOk s) (a b : Int) {h : Heap} {Q : AV → Heap → Prop} (hq : Q (atR (atS s a b)) h) : ACalls prog n_vref19_At [sm s, .agg [I a, I b]] h Q := by
  refine vref19_At_call ?_
  unfold vref19_At sm
  simp only [w_agg, List.length_cons, List.length_nil, true_and, g_0, g_1]
  refine callS_of (vref03_Is_c s ?_)
  rw [(schB_iff s).2 H]
  simp only [w_notA, Bool.not_true, w_brA, Bool.false_eq_true, if_false, w_lss]
  by_cases h1 : a < 0
  · have : atS s a b = none := if_neg fun h => by omega
    rw [this] at hq
    simp only [h1, decide_true, if_true]
    exact retA_of hq
  simp only [h1, decide_false, Bool.false_eq_true, if_false, w_len_rs, fnCs_len, w_geq, w_brA]
  by_cases h2 : (s.funs.length : Int) ≤ a
  · have : atS s a b = none := if_neg fun h => by omega
    rw [this] at hq
    simp only [h2, decide_true, if_true]
    exact retA_of hq
  simp only [h2, decide_false, Bool.false_eq_true, if_false]
  obtain ⟨f, rfl⟩ : ∃ f : Nat, a = f := ⟨a.toNat, by omega⟩
  have hf : f < s.funs.length := by omega
  have hbody := H.body (getD_mem hf)
  refine ix_rs (by rw [fnCs_len]; exact hf) (fn_get hf) ?_
  rw [fnC, w_fld_ro, List.drop_succ_cons, List.drop_succ_cons, List.drop_zero, w_loadG_ro]
  refine ⟨by simp, callS_of ?_⟩
  simp only [g_0, g_1, g_2]
  rw [tm_eta]
  refine vref19_Nodes_f _ (by omega) ?_
  simp only [w_len_rs, tmCs_len, pre_len, w_lss, w_geq, w_brA]
  by_cases h3 : b < 0
  · have : atS s f b = none := if_neg fun h => by omega
    rw [this] at hq
    simp only [h3, decide_true, if_true]
    exact retA_of hq
  simp only [h3, decide_false, Bool.false_eq_true, if_false]
  by_cases h4 : ((s.funs.getD f default).body.nodes : Int) ≤ b
  · have : atS s f b = none := if_neg fun h => by rw [Int.toNat_natCast] at h; omega
    rw [this] at hq
    simp only [h4, decide_true, if_true]
    exact retA_of hq
  simp only [h4, decide_false, Bool.false_eq_true, if_false]
  obtain ⟨i, rfl⟩ : ∃ i : Nat, b = i := ⟨b.toNat, by omega⟩
  have hp : okP s (f, i) := ⟨hf, by show i < (s.funs.getD f default).body.nodes; omega⟩
  have e : atS s f i = some (ndS s (f, i)).1 := if_pos ⟨by omega, by omega, by omega, by rw [Int.toNat_natCast]; omega⟩
  rw [e] at hq
  have hlt : i < (preT_ (s.funs.getD f default).body).length := by rw [pre_len]; exact hp.2
  have eg : (preT_ (s.funs.getD f default).body)[i] = (ndS s (f, i)).1 := by
    have := pre_get hp
    rw [List.getElem?_eq_getElem hlt] at this
    simpa using this
  refine ix_rs (by rw [tmCs_len]; exact hlt) (by rw [tmCs_get hlt, eg]) ?_
  rw [w_loadG_ro]
  refine ⟨by simp, ?_⟩
  simp only [tmC_0, tmC_1, tmC_2, tm_eta]
  exact retA_of hq
theorem vref19_At_no {s : Sch} (H : ¬ SOk s) {a b : Int} {h : Heap} {Q : AV → Heap → Prop} (hq : Q (.tup [.agg [I 0, I 0, .e0], I 7]) h) : ACalls prog n_vref19_At [sm s, .agg [I a, I b]] h Q := by
  refine vref19_At_call ?_
  unfold vref19_At sm
  simp only [w_agg, List.length_cons, List.length_nil, true_and, g_0, g_1]
  refine callS_of (vref03_Is_c s ?_)
  have : schB s = false := by
    cases h : schB s with
    | false => rfl
    | true => exact absurd ((schB_iff s).1 h) H
  rw [this]
  simp only [w_notA, Bool.not_false, w_brA, if_true]
  exact retA_of hq
end Am
