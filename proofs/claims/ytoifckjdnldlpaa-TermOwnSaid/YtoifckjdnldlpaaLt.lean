/- TermOwn. -/
import Derived.Test.YtoifckjdnldlpaaLs
import Derived.Test.YtoifckjdnldlpaaLn
import Derived.Test.YtoifckjdnldlpaaFL0F
set_option linter.unusedVariables false
set_option linter.unusedSimpArgs false
namespace Am
open Go Go.Proofs.Try
theorem Ext.turn {h h1 h2 : Heap} {L : List Nat} (E : Ext h h1 L) (hf : ∀ j, ¬ j ∈ L → h2 j = h1 j) : HRef h2 h := HRef.sub fun j n hj => by
  obtain ⟨a, b⟩ := E j n hj
  rw [hf j b]; exact a
theorem law_TermOwn (p : Pl) (t : Tm) (args : List Tm) (hal : args.length ≤ 10000000000000) {h : Heap} {Q : AV → Heap → Prop} (hq : Q (B true) h) : ACalls prog 19 [pl p, tm t, .rs 3 (tmCs args)] h Q := by
  have hall : callS prog n_vlaw02_alive [] h (fun r h' => retA r h' Q) := callS_of (vlaw02_alive_c (retA_of hq))
  refine vlaw02_TermOwn_call ?_
  unfold vlaw02_TermOwn
  have etm : ∀ us : List Tm, (.agg [I 0, I 0, .rs 3 (tmCs us)] : AV) = tm (.mk (0, 0) us) := fun us => rfl
  have esr : ∀ us : List Srt, (.agg [.rs 1 (srCs us)] : AV) = sr (.mk () us) := fun us => by simp [sr, srC]
  simp [pl, tm]
  by_cases c0 : 20 < args.length
  · have c0' : (20 : Int) < args.length := by omega
    simp [c0']; exact hall
  have c0' : ¬ (20 : Int) < args.length := by omega
  simp [c0']
  refine callS_of ?_
  simp only [tm_eta, pl_eta, etm]
  refine vref02_Nodes_c t (m := 1000) (by omega) ?_
  have e1 : decide ((1000 : Int) < ((min t.nodes (1000 + 1) : Nat) : Int)) = decide (1000 < t.nodes) := by rw [decide_eq_decide]; omega
  rw [w_gtr, e1, w_brA]
  by_cases hn1 : 1000 < t.nodes
  · simp only [hn1, decide_true, if_true]; exact hall
  simp only [hn1, decide_false, Bool.false_eq_true, if_false]
  refine callS_of (vref02_Nodes_c _ (m := 1000) (by omega) ?_)
  have e2 : decide ((1000 : Int) < ((min (Rt.mk ((0 : Int), (0 : Int)) args).nodes (1000 + 1) : Nat) : Int)) = decide (1000 < (Rt.mk ((0 : Int), (0 : Int)) args).nodes) := by rw [decide_eq_decide]; omega
  rw [w_gtr, e2, w_brA]
  by_cases hn2 : 1000 < (Rt.mk ((0 : Int), (0 : Int)) args).nodes
  · simp only [hn2, decide_true, if_true]; exact hall
  simp only [hn2, decide_false, Bool.false_eq_true, if_false]
  refine callS_of (vref02_Is_c p ?_)
  cases hp : plB p with
  | false => simp; exact hall
  | true =>
  have hpo := plB_ok hp
  have b1 : Rt.nodesL p.params ≤ 60 * p.params.length := Rt.nodesL_bound fun s hs => okS_nodes (hpo.params s hs)
  have b2 : Rt.nodesL p.funs ≤ 60 * p.funs.length := Rt.nodesL_bound fun s hs => okS_nodes (hpo.funs s hs)
  have b3 := hpo.npar
  have b4 := hpo.nfuns
  have m1 : (Rt.mk () p.params : Srt).nodes ≤ 1000000000 := by simp only [Rt.nodes]; omega
  have m2 : (Rt.mk () p.funs : Srt).nodes ≤ 1000000000 := by simp only [Rt.nodes]; omega
  simp only [w_notA, w_brA, Bool.not_true, Bool.false_eq_true, if_false]
  refine callS_of (vref02_Copy_f t (by omega) ?_)
  rw [show tm t = .agg [I t.lab.1, I t.lab.2, .rs 3 (tmCs t.kids)] from (tm_eta t).symm]
  simp only [w_agg, List.length_cons, List.length_nil, true_and, g_0, g_1, g_2]
  refine callS_of (vref02_Copy_f _ (by omega) ?_)
  rw [show tm (.mk (0, 0) args) = .agg [I 0, I 0, .rs 3 (tmCs args)] from rfl]
  simp only [w_agg, List.length_cons, List.length_nil, true_and, g_0, g_1, g_2, w_one_rs, esr]
  refine callS_of (vref01_Copy_f _ m1 ?_)
  rw [← esr]
  simp only [w_agg, List.length_cons, List.length_nil, true_and, g_0, g_1, g_2, w_one_rs]
  simp only [esr]
  refine callS_of (vref01_Copy_f _ m2 ?_)
  rw [← esr]
  simp only [w_agg, List.length_cons, List.length_nil, true_and, g_0, g_1, g_2, w_one_rs]
  simp only [esr, tm_eta, etm]
  refine callS_of (vlaw02_given_c p ?_)
  refine callS_of (term_Sort_o p t fun x h1 us e hs hl hk60 => ?_)
  simp only [w_agg, w_tup, List.length_cons, List.length_nil, List.getD_cons_zero, List.getD_cons_succ, true_and, g_0, g_1, g_2]
  refine ⟨by omega, by omega, ?_⟩
  rw [hs.len, srCs_len]
  refine own_sorts hs hl hk60 fun h2 hh2 => ?_
  refine callS_wk (args' := [tm t]) (.cons .refl .nil) hh2 (term_Free_c t ?_)
  refine callS_of (term_Size_c t ?_)
  refine callS_of (term_Subst_o t args (by omega) fun a b n us3 x3 h3 L3 ho3 he3 h13 hb3 => ?_)
  simp only [w_agg, w_tup, List.length_cons, List.length_nil, List.getD_cons_zero, List.getD_cons_succ, true_and, g_0, g_1, g_2]
  refine ⟨by omega, by omega, ?_⟩
  refine callS_of (turn_c (.mk (0, 0) us3) ho3 (by simp only [Rt.nodes]; omega) fun h4 us4 _ _ hf4 => ?_)
  refine callS_wk (args' := [tm t, .rs 3 (tmCs args)]) (.cons .refl (.cons .refl .nil)) (he3.turn hf4) ?_
  refine term_Apply_o t args (by omega) fun a b n us3 x3 h3 L3 ho3 he3 h13 hb3 => ?_
  simp only [w_agg, w_tup, List.length_cons, List.length_nil, List.getD_cons_zero, List.getD_cons_succ, true_and, g_0, g_1, g_2]
  refine ⟨by omega, by omega, ?_⟩
  refine callS_of (turn_c (.mk (0, 0) us3) ho3 (by simp only [Rt.nodes]; omega) fun h4 us4 _ _ hf4 => ?_)
  refine callS_wk (args' := [tm t, tm t]) (.cons .refl (.cons .refl .nil)) (he3.turn hf4) ?_
  refine vref02_Equal_c t t (by omega) ?_
  simp only [Rt.eqR_refl, w_brA, if_true]
  refine callS_of (vref02_Equal_c _ _ (by omega) ?_)
  simp only [Rt.eqR_refl, w_brA, if_true]
  refine callS_of (vref01_Equal_c _ _ m1 ?_)
  simp only [Rt.eqR_refl, w_brA, if_true]
  refine callS_of (vref01_Equal_c _ _ m2 ?_)
  simp only [Rt.eqR_refl, w_brA, if_true]
  exact hall
end Am
