/- FlowReached, FlowAt: the laws answer true. -/
import Derived.Test.YtoifckjdnldlpaaFp
import Derived.Test.YtoifckjdnldlpaaM5
set_option linter.unusedVariables false
set_option linter.unusedSimpArgs false
namespace Am
open Go Go.Proofs.Try
theorem flow_Reached_no {s : Sch} (H : ¬ SOk s) {h : Heap} {Q : AV → Heap → Prop} (hq : Q (.tup [.e0, I 7]) h) : ACalls prog n_flow_Reached [sm s] h Q := by
  refine flow_Reached_call ?_
  unfold flow_Reached sm
  simp only [w_agg, List.length_cons, List.length_nil, true_and, g_0, g_1]
  refine callS_of (scheme_Check_c s ?_)
  have : schB s ≠ true := fun h => H ((schB_iff s).1 h)
  rw [if_neg this, w_neq, w_brA]
  simp only [show ¬ ((7 : Int) = 0) by omega, decide_false, Bool.not_false, if_true]
  exact retA_of hq
theorem vref19_Reached_c (s : Sch) {h : Heap} {Q : AV → Heap → Prop} (h1 : SOk s → ∀ l, IsR s l → Q (.tup [.rs 1 (bCs l), I 0]) h) (h2 : ¬ SOk s → Q (.tup [.e0, I 7]) h) : ACalls prog n_vref19_Reached [sm s] h Q := by
  refine vref19_Reached_call ?_
  unfold vref19_Reached sm
  simp only [w_agg, List.length_cons, List.length_nil, true_and, g_0, g_1]
  refine callS_of (vref03_Is_c s ?_)
  by_cases H : SOk s
  · rw [(schB_iff s).2 H]
    simp only [w_notA, Bool.not_true, w_brA, Bool.false_eq_true, if_false]
    exact callS_of (vref19_Reach_c s H fun l hl => retA_of (h1 H l hl))
  · have : schB s = false := by
      cases h : schB s with
      | false => rfl
      | true => exact absurd ((schB_iff s).1 h) H
    rw [this]
    simp only [w_notA, Bool.not_false, w_brA, if_true]
    exact retA_of (h2 H)
theorem vlaw19_bools_c (l : List Bool) (hl : l.length ≤ 1000000) {h : Heap} {Q : AV → Heap → Prop} (hq : Q (B true) h) : ACalls prog n_vlaw19_bools [.rs 1 (bCs l), .rs 1 (bCs l)] h Q := by
  refine vlaw19_bools_call ?_
  unfold vlaw19_bools
  simp only [w_len_rs, bCs_len, w_neq, w_brA, decide_true, Bool.not_true, Bool.false_eq_true, if_false]
  refine loop_ix l.length (fun _ => True) trivial fun k hk _ K hK => ?_
  by_cases hlt : k < l.length
  · have hlt' : (k : Int) < l.length := by omega
    simp only [g_0, w_lss, hlt', decide_true, w_brA, if_true]
    refine ix_rs (by simpa using hlt) (bCs_get hlt) ?_
    rw [w_loadV_ro]
    refine ix_rs (by simpa using hlt) (bCs_get hlt) ?_
    rw [w_loadV_ro, w_neb, w_brA]
    simp only [beq_self_eq_true, Bool.not_true, Bool.false_eq_true, if_false]
    rw [w_add, wrap_k (k := k) (by omega)]
    exact hK hlt trivial
  · have hkn : k = l.length := by omega
    subst hkn
    simp only [g_0, w_lss, Int.lt_irrefl, decide_false, w_brA, Bool.false_eq_true, if_false]
    exact retA_of hq
theorem vlaw19_bools_e {h : Heap} {Q : AV → Heap → Prop} (hq : Q (B true) h) : ACalls prog n_vlaw19_bools [.e0, .e0] h Q := by
  refine vlaw19_bools_call ?_
  unfold vlaw19_bools
  simp only [w_len_e, w_neq, w_brA, decide_true, Bool.not_true, Bool.false_eq_true, if_false]
  refine loop_ix 0 (fun _ => True) trivial fun k hk _ K hK => ?_
  have hkn : k = 0 := by omega
  subst hkn
  simp only [g_0, w_lss]
  rw [show (decide (((0 : Nat) : Int) < 0)) = false from rfl, w_brA]
  simp only [Bool.false_eq_true, if_false]
  exact retA_of hq
theorem law_FlowReached (s : Sch) {h : Heap} {Q : AV → Heap → Prop} (hq : Q (B true) h) : ACalls prog 23 [sm s] h Q := by
  refine vlaw19_FlowReached_call ?_
  unfold vlaw19_FlowReached sm
  simp only [w_agg, List.length_cons, List.length_nil, true_and, g_0, g_1]
  by_cases H : SOk s
  · have hfw := H.few
    refine callS_of (flow_Reached_c s H fun l hl => ?_)
    refine tp0 (tp1 ?_)
    refine callS_of (vref19_Reached_c s (fun _ l' hl' => ?_) fun hn => absurd H hn)
    have := hl.unique hl'
    subst this
    refine tp0 (tp1 ?_)
    simp only [w_eql, w_brA, decide_true, if_true]
    refine callS_of (vlaw19_bools_c l (by rw [hl.1]; omega) ?_)
    simp only [w_brA, if_true]
    exact callS_of (vlaw19_alive_c (retA_of hq))
  · refine callS_of (flow_Reached_no H ?_)
    refine tp0 (tp1 ?_)
    refine callS_of (vref19_Reached_c s (fun hs => absurd hs H) fun _ => ?_)
    refine tp0 (tp1 ?_)
    simp only [w_eql, w_brA, decide_true, if_true]
    refine callS_of (vlaw19_bools_e ?_)
    simp only [w_brA, if_true]
    exact callS_of (vlaw19_alive_c (retA_of hq))
/-! ### At -/
theorem preL_ndF (us : List Tm) : ∀ i, (ndFL i us).map (·.1) = preL us := by
  induction us with
  | nil => intro i; rfl
  | cons t us ih => intro i; simp only [ndFL, preL, List.map_append]; rw [ndF_fst, ih]
theorem pre_get {s : Sch} {p : Pc} (hp : okP s p) : (preT_ (s.funs.getD p.1 default).body)[p.2]? = some (ndS s p).1 := by
  rw [← ndF_fst _ 0, List.getElem?_map, ndS_get hp]; rfl
theorem vref19_At_c {s : Sch} (H : SOk s) (a b : Int) {h : Heap} {Q : AV → Heap → Prop} (hq : Q (atR (atS s a b)) h) : ACalls prog n_vref19_At [sm s, .agg [I a, I b]] h Q := by
  refine vref19_At_call ?_
  unfold vref19_At sm
  simp only [w_agg, List.length_cons, List.length_nil, true_and, g_0, g_1]
  refine callS_of (vref03_Is_c s ?_)
  rw [(schB_iff s).2 H]
  simp only [w_notA, Bool.not_true, w_brA, Bool.false_eq_true, if_false, w_lss]
  by_cases h1 : a < 0
  · have : atS s a b = none := if_neg fun h => by omega
    rw [this] at hq
    simp only [h1, decide_true, if_true]
    exact retA_of hq
  simp only [h1, decide_false, Bool.false_eq_true, if_false, w_len_rs, fnCs_len, w_geq, w_brA]
  by_cases h2 : (s.funs.length : Int) ≤ a
  · have : atS s a b = none := if_neg fun h => by omega
    rw [this] at hq
    simp only [h2, decide_true, if_true]
    exact retA_of hq
  simp only [h2, decide_false, Bool.false_eq_true, if_false]
  obtain ⟨f, rfl⟩ : ∃ f : Nat, a = f := ⟨a.toNat, by omega⟩
  have hf : f < s.funs.length := by omega
  have hbody := H.body (getD_mem hf)
  refine ix_rs (by rw [fnCs_len]; exact hf) (fn_get hf) ?_
  rw [fnC, w_fld_ro, List.drop_succ_cons, List.drop_succ_cons, List.drop_zero, w_loadG_ro]
  refine ⟨by simp, callS_of ?_⟩
  simp only [g_0, g_1, g_2]
  rw [tm_eta]
  refine vref19_Nodes_f _ (by omega) ?_
  simp only [w_len_rs, tmCs_len, pre_len, w_lss, w_geq, w_brA]
  by_cases h3 : b < 0
  · have : atS s f b = none := if_neg fun h => by omega
    rw [this] at hq
    simp only [h3, decide_true, if_true]
    exact retA_of hq
  simp only [h3, decide_false, Bool.false_eq_true, if_false]
  by_cases h4 : ((s.funs.getD f default).body.nodes : Int) ≤ b
  · have : atS s f b = none := if_neg fun h => by rw [Int.toNat_natCast] at h; omega
    rw [this] at hq
    simp only [h4, decide_true, if_true]
    exact retA_of hq
  simp only [h4, decide_false, Bool.false_eq_true, if_false]
  obtain ⟨i, rfl⟩ : ∃ i : Nat, b = i := ⟨b.toNat, by omega⟩
  have hp : okP s (f, i) := ⟨hf, by show i < (s.funs.getD f default).body.nodes; omega⟩
  have e : atS s f i = some (ndS s (f, i)).1 := if_pos ⟨by omega, by omega, by omega, by rw [Int.toNat_natCast]; omega⟩
  rw [e] at hq
  have hlt : i < (preT_ (s.funs.getD f default).body).length := by rw [pre_len]; exact hp.2
  have eg : (preT_ (s.funs.getD f default).body)[i] = (ndS s (f, i)).1 := by
    have := pre_get hp
    rw [List.getElem?_eq_getElem hlt] at this
    simpa using this
  refine ix_rs (by rw [tmCs_len]; exact hlt) (by rw [tmCs_get hlt, eg]) ?_
  rw [w_loadG_ro]
  refine ⟨by simp, ?_⟩
  simp only [tmC_0, tmC_1, tmC_2, tm_eta]
  exact retA_of hq
theorem flow_At_no {s : Sch} (H : ¬ SOk s) (x : AV) {a b : Int} {h : Heap} {Q : AV → Heap → Prop} (hq : Q (.tup [.agg [I 0, I 0, .e0], I 7]) h) : ACalls prog n_flow_At [sm s, .agg [I a, I b]] h Q := by
  refine flow_At_call ?_
  unfold flow_At sm
  simp only [w_agg, List.length_cons, List.length_nil, true_and, g_0, g_1]
  refine callS_of (scheme_Check_c s ?_)
  have : schB s ≠ true := fun h => H ((schB_iff s).1 h)
  rw [if_neg this, w_neq, w_brA]
  simp only [show ¬ ((7 : Int) = 0) by omega, decide_false, Bool.not_false, if_true]
  exact retA_of hq
theorem vref19_At_no {s : Sch} (H : ¬ SOk s) {a b : Int} {h : Heap} {Q : AV → Heap → Prop} (hq : Q (.tup [.agg [I 0, I 0, .e0], I 7]) h) : ACalls prog n_vref19_At [sm s, .agg [I a, I b]] h Q := by
  refine vref19_At_call ?_
  unfold vref19_At sm
  simp only [w_agg, List.length_cons, List.length_nil, true_and, g_0, g_1]
  refine callS_of (vref03_Is_c s ?_)
  have : schB s = false := by
    cases h : schB s with
    | false => rfl
    | true => exact absurd ((schB_iff s).1 h) H
  rw [this]
  simp only [w_notA, Bool.not_false, w_brA, if_true]
  exact retA_of hq
/-- A term without arguments, its slice nil. -/
theorem nil_tm {h : Heap} : Refs h h [.agg [I 0, I 0, .e0]] [tm (.mk (0, 0) [])] := .cons (Ref.aggs (.cons .refl (.cons .refl (.cons .e0 .nil)))) .nil
theorem law_FlowAt (s : Sch) (a b : Int) {h : Heap} {Q : AV → Heap → Prop} (hq : Q (B true) h) : ACalls prog 20 [sm s, .agg [I a, I b]] h Q := by
  have fin : ∀ (t : Tm) (e : Int) {h : Heap} {Q : AV → Heap → Prop}, t.nodes ≤ 400 → Q (B true) h → callS prog n_vref02_Nodes [tm t, I 400] h fun r_14 h_15 =>
      binA .leq r_14 (I 400) fun x_16 =>
      brA x_16 (callS prog n_vref02_Equal [tm t, tm t] h_15 fun r_17 h_18 =>
      brA r_17 (callS prog n_vlaw19_alive [] h_18 fun r_19 h_20 =>
      retA r_19 h_20 Q) (retA (B false) h_18 Q)) (retA (B false) h_15 Q) := fun t e {h Q} hn hq => by
    refine callS_of (vref02_Nodes_c t (m := 400) (by omega) ?_)
    have e1 : min t.nodes (400 + 1) = t.nodes := by omega
    have e2 : ((t.nodes : Nat) : Int) ≤ 400 := by omega
    simp only [e1, w_leq, e2, decide_true, w_brA, if_true]
    refine callS_of (vref02_Equal_c t t (by omega) ?_)
    rw [(Rt.eqR_iff t t).2 rfl]
    simp only [w_brA, if_true]
    exact callS_of (vlaw19_alive_c (retA_of hq))
  have fin0 : ∀ {h : Heap} {Q : AV → Heap → Prop}, Q (B true) h → callS prog n_vref02_Nodes [.agg [I 0, I 0, .e0], I 400] h fun r_14 h_15 =>
      binA .leq r_14 (I 400) fun x_16 =>
      brA x_16 (callS prog n_vref02_Equal [.agg [I 0, I 0, .e0], .agg [I 0, I 0, .e0]] h_15 fun r_17 h_18 =>
      brA r_17 (callS prog n_vlaw19_alive [] h_18 fun r_19 h_20 =>
      retA r_19 h_20 Q) (retA (B false) h_18 Q)) (retA (B false) h_15 Q) := fun {h Q} hq => by
    have rn : ∀ h : Heap, Ref h h (.agg [I 0, I 0, .e0]) (tm (.mk (0, 0) [])) := fun h => Ref.aggs (.cons .refl (.cons .refl (.cons .e0 .nil)))
    refine callS_wk (args' := [tm (.mk (0, 0) []), I 400]) (.cons (rn h) (.cons .refl .nil)) (HRef.refl _) (vref02_Nodes_c _ (m := 400) (by omega) ?_)
    have e1 : min (Rt.mk ((0 : Int), (0 : Int)) []).nodes (400 + 1) = 1 := rfl
    simp only [e1, w_leq, show ((1 : Nat) : Int) ≤ 400 by omega, decide_true, w_brA, if_true]
    refine callS_wk (args' := [tm (.mk (0, 0) []), tm (.mk (0, 0) [])]) (.cons (rn h) (.cons (rn h) .nil)) (HRef.refl _) (vref02_Equal_c _ _ (by simp [Rt.nodes, Rt.nodesL]) ?_)
    rw [(Rt.eqR_iff _ _).2 rfl]
    simp only [w_brA, if_true]
    exact callS_of (vlaw19_alive_c (retA_of hq))
  refine vlaw19_FlowAt_call ?_
  unfold vlaw19_FlowAt sm
  simp only [w_agg, List.length_cons, List.length_nil, true_and, g_0, g_1]
  by_cases H : SOk s
  · refine callS_of (flow_At_c H a b ?_)
    cases he : atS s a b with
    | some t =>
      have hn := atS_nodes H he
      simp only [atR]
      refine tp0 (tp1 ?_)
      rw [← tm_eta]
      simp only [w_agg, List.length_cons, List.length_nil, true_and, g_0, g_1, g_2]
      refine callS_of (vref19_At_c H a b ?_)
      rw [he]
      simp only [atR]
      refine tp0 (tp1 ?_)
      rw [← tm_eta]
      simp only [w_agg, List.length_cons, List.length_nil, true_and, g_0, g_1, g_2, w_eql, decide_true, w_brA, if_true]
      simp only [tm_eta]
      exact fin t 0 hn hq
    | none =>
      simp only [atR]
      refine tp0 (tp1 ?_)
      simp only [w_agg, List.length_cons, List.length_nil, true_and, g_0, g_1, g_2]
      refine callS_of (vref19_At_c H a b ?_)
      rw [he]
      simp only [atR]
      refine tp0 (tp1 ?_)
      simp only [w_agg, List.length_cons, List.length_nil, true_and, g_0, g_1, g_2, w_eql, decide_true, w_brA, if_true]
      exact fin0 hq
  · refine callS_of (flow_At_no H .any ?_)
    refine tp0 (tp1 ?_)
    simp only [w_agg, List.length_cons, List.length_nil, true_and, g_0, g_1, g_2]
    refine callS_of (vref19_At_no H ?_)
    refine tp0 (tp1 ?_)
    simp only [w_agg, List.length_cons, List.length_nil, true_and, g_0, g_1, g_2, w_eql, decide_true, w_brA, if_true]
    exact fin0 hq
theorem law_FlowAt' (s : Sch) (p : Int × Int) {h : Heap} {Q : AV → Heap → Prop} (hq : Q (B true) h) : ACalls prog 20 [sm s, plI p] h Q := law_FlowAt s p.1 p.2 hq
end Am
