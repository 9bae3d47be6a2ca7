/- FlowOwn answers true (in the seat that has it: HO holds its text). -/
import Derived.Test.YtoifckjdnldlpaaGreatZHa
import Derived.Test.YtoifckjdnldlpaaGreatZGh
import Derived.Test.YtoifckjdnldlpaaGreatZHO
set_option linter.unusedVariables false
set_option linter.unusedSimpArgs false
namespace Am
open Go Go.Proofs.Tryz
open Rt (eqR eqRL eqR_iff eqR_refl)
theorem flow_At_o {s : Sch} (H : SOk s) (a b : Int) {h : Heap} {Q : AV → Heap → Prop} (h0 : atS s a b = none → Q (.tup [.agg [I 0, I 0, .e0], I 2]) h)
    (h1 : ∀ t x h', atS s a b = some t → SlO 3 (tmCs t.kids) h x h' → Q (.tup [.agg [I t.lab.1, I t.lab.2, x], I 0]) h') : ACalls prog n_flow_At [sm s, .agg [I a, I b]] h Q := by
  refine flow_At_call ?_
  unfold flow_At sm
  simp only [w_agg, List.length_cons, List.length_nil, true_and, g_0, g_1]
  refine callS_of (scheme_Check_c s ?_)
  rw [if_pos ((schB_iff s).2 H), w_neq, w_brA]
  simp only [decide_true, Bool.not_true, Bool.false_eq_true, if_false]
  refine callS_of (flow_at_c H a b ?_)
  cases he : atS s a b with
  | none =>
    refine tp0 (tp1 ?_)
    simp only [w_notA, Bool.not_false, w_brA, if_true]
    exact retA_of (h0 he)
  | some t =>
    have hn := atS_nodes H he
    refine tp0 (tp1 ?_)
    simp only [w_notA, Bool.not_true, w_brA, Bool.false_eq_true, if_false, w_nil_ro]
    rw [w_loadG_ro]
    refine ⟨by simp, callS_of ?_⟩
    simp only [tmC_0, tmC_1, tmC_2, tm_eta]
    refine flow_copied_o t (by omega) fun x h' hs => ?_
    simp only [w_agg, List.length_cons, List.length_nil, true_and, g_0, g_1, g_2]
    exact retA_of (h1 t x h' he hs)
section
variable {s : Sch} {t : Tm} {a b : Int} {i2 i3 : Nat}
def KpO (s : Sch) (t : Tm) (i2 i3 : Nat) (h : Heap) : Prop := h i2 = some (.arr 2 [[.rs 2 (syCs s.syms), .rs 5 (fnCs s.funs)]]) ∧ h i3 = some (.arr 3 [[I t.lab.1, I t.lab.2, .rs 3 (tmCs t.kids)]])
theorem own_k0 (H : SOk s) (Sm : Small s) (ht : t.nodes ≤ 3000) (x0 x1 x2 : AV) {h : Heap} (hK : KpO s t i2 i3 h) {Q : AV → Heap → Prop} (hq : ∀ h, Q (B true) h) :
    vlaw19_FlowOwn_k0 x0 x1 x2 [.rs 2 (syCs s.syms), .rs 5 (fnCs s.funs)] [I a, I b] [I t.lab.1, I t.lab.2, .rs 3 (tmCs t.kids)] (.op i2 0 0) (.op i3 0 0) h Q := by
  have al : ∀ {h : Heap}, callS prog n_vlaw19_alive [] h fun r h => retA r h Q := fun {h} => callS_of (vlaw19_alive_c (retA_of (hq h)))
  unfold vlaw19_FlowOwn_k0
  simp only [g_0, g_1, g_2]
  rw [tm_eta, sm_eta]
  have eqs : ∀ {h : Heap}, KpO s t i2 i3 h → loadG 2 (.op i2 0 0) h fun c_52 =>
     callS prog n_vref03_Equal [sm s, (.agg [(g c_52 0), (g c_52 1)])] h fun r_53 h_54 =>
     brA r_53 (loadG 3 (.op i3 0 0) h_54 fun c_55 =>
     callS prog n_vref02_Equal [tm t, (.agg [(g c_55 0), (g c_55 1), (g c_55 2)])] h_54 fun r_56 h_57 =>
     brA r_56 (callS prog n_vlaw19_alive [] h_57 fun r_58 h_59 =>
     retA r_58 h_59 Q) (retA (B false) h_57 Q)) (retA (B false) h_54 Q) := fun {h} hK => by
    rw [w_loadG_op hK.1]
    refine ⟨by simp, by omega, ?_⟩
    simp only [List.getD_cons_zero, List.drop_zero, g_0, g_1]
    rw [sm_eta]
    refine callS_of (vref03_Equal_r s H ?_)
    simp only [w_brA, if_true]
    rw [w_loadG_op hK.2]
    refine ⟨by simp, by omega, ?_⟩
    simp only [List.getD_cons_zero, List.drop_zero, g_0, g_1, g_2]
    rw [tm_eta]
    refine callS_of (vref02_Equal_c t t (by omega) ?_)
    rw [eqR_refl]
    simp only [w_brA, if_true]
    exact al
  refine callS_of (flow_Reached_c s H fun bl hb => ?_)
  refine callS_of (flow_Flow_c H Sm fun bl2 F hb2 hF => ?_)
  have at5 : ∀ {K : AV → Heap → Prop}, (∀ x, K x h) → callS prog n_flow_Heads [sm s, .agg [I a, I b]] h K := fun {K} hk => callS_of (flow_Heads_c s a b (fun _ => Sm) ⟨fun H' => absurd H H', fun _ _ => hk _, fun _ _ _ _ _ _ _ => hk _⟩)
  refine at5 fun _ => ?_
  have cm5 : ∀ {K : AV → Heap → Prop}, (∀ x, K x h) → callS prog n_flow_Comes [sm s, I a, I b, tm t] h K := fun {K} hk => callS_of (flow_Comes_c s a b t (fun _ => Sm) ⟨fun H' => absurd H H', fun _ _ => hk _, fun _ _ _ => hk _, fun _ _ _ _ _ _ _ => hk _⟩)
  refine cm5 fun _ => ?_
  refine callS_of (flow_At_o H a b (fun _ => ?_) fun u x h' he hs => ?_)
  · refine tp0 (tp1 ?_)
    simp only [w_agg, List.length_cons, List.length_nil, true_and, w_eql, show ¬ ((2 : Int) = 0) by omega, decide_false, w_brA, Bool.false_eq_true, if_false]
    exact eqs hK
  · have hun := atS_nodes H he
    have hul : u.kids.length ≤ 1000000 := by
      have h1 := Rt.length_le u.kids
      have h2 : Rt.nodesL u.kids + 1 = u.nodes := by cases u; simp only [Rt.nodes, Rt.kids]
      omega
    refine tp0 (tp1 ?_)
    simp only [w_agg, List.length_cons, List.length_nil, true_and, w_eql, decide_true, w_brA, if_true, g_0, g_1, g_2]
    rw [hs.len, tmCs_len]
    rcases hs with ⟨he0, rfl, rfl⟩ | ⟨hne, id, hi, rfl, rfl⟩
    · have hk0 : u.kids.length = 0 := by
        have := congrArg List.length he0
        simpa using this
      rw [hk0]
      refine loop_ix 0 (fun _ => True) trivial fun k hk _ K hK2 => ?_
      have hkn : k = 0 := by omega
      subst hkn
      simp only [g_0, w_lss]
      rw [show (decide (((0 : Nat) : Int) < ((0 : Nat) : Int))) = false from rfl, w_brA]
      simp only [Bool.false_eq_true, if_false]
      exact eqs hK
    · have n2 : i2 ≠ id := fun e => by subst e; rw [hK.1] at hi; cases hi
      have n3 : i3 ≠ id := fun e => by subst e; rw [hK.2] at hi; cases hi
      rw [tmCs_len]
      refine loop_up u.kids.length (fun k σ' h2 => σ' = [I k] ∧ KpO s t i2 i3 h2 ∧ ∃ els : List (List AV), els.length = u.kids.length ∧ (∀ i, i < els.length → (els.getD i []).length = 3) ∧ h2 id = some (.arr 3 els)) ⟨rfl, ⟨by rw [Heap.set_ne n2]; exact hK.1, by rw [Heap.set_ne n3]; exact hK.2⟩, tmCs u.kids, tmCs_len _, fun i hi => by
        have : i < u.kids.length := by simpa using hi
        rw [tmCs_get this]; simp, Heap.set_same _ _ _⟩ (fun k σ' h' ⟨e, _⟩ => by rw [e]; rfl) ?_
      rintro k σ' h2 K hk ⟨rfl, hK2, els, hl, hz, hid⟩ hKK
      simp only [g_0]
      by_cases hlt : k < u.kids.length
      · have hlt' : (k : Int) < u.kids.length := by omega
        simp only [w_lss, hlt', decide_true, w_brA, if_true]
        rw [w_one_v, w_idx_os hid]
        refine ⟨rfl, by omega, hlt', by omega, ?_⟩
        rw [Int.toNat_natCast, w_store hid]
        refine ⟨by omega, by simp, ?_⟩
        rw [w_add, wrap_k (k := k) (by omega)]
        refine hKK hlt _ _ ⟨rfl, ⟨by rw [Heap.set_ne n2]; exact hK2.1, by rw [Heap.set_ne n3]; exact hK2.2⟩, _, by rw [List.length_set]; exact hl, fun i hi => ?_, Heap.set_same _ _ _⟩
        rw [List.length_set] at hi
        by_cases e : k = i
        · subst e
          have hz' := hz k hi
          rw [List.getD_eq_getElem?_getD, List.getElem?_set_self hi]
          generalize els.getD k [] = cs at hz'
          match cs, hz' with
          | [_, _, _], _ => rfl
        · rw [List.getD_eq_getElem?_getD, List.getElem?_set_ne e, ← List.getD_eq_getElem?_getD]
          exact hz i hi
      · have hke : k = u.kids.length := by omega
        subst hke
        simp only [w_lss, Int.lt_irrefl, decide_false, w_brA, Bool.false_eq_true, if_false]
        exact eqs hK2
theorem own_leaf (H : SOk s) (Sm : Small s) (ht : t.nodes ≤ 3000) (x0 x1 x2 : AV) {h : Heap} {Q : AV → Heap → Prop} (hq : ∀ h, Q (B true) h) (hne : i2 ≠ i3) (h2 : h i2 = some (.arr 2 [[.e0, .e0]])) (h3 : h i3 = some (.arr 3 [[I 0, I 0, .e0]])) :
    aggA 2 (sm s) fun c_26 =>
     storeG (.op i2 0 0) [(g c_26 0), (g c_26 1)] h fun h_27 =>
     aggA 3 (tm t) fun c_28 =>
     storeG (.op i3 0 0) [(g c_28 0), (g c_28 1), (g c_28 2)] h_27 fun h_29 =>
     vlaw19_FlowOwn_k0 x0 x1 x2 [.rs 2 (syCs s.syms), .rs 5 (fnCs s.funs)] [I a, I b] [I t.lab.1, I t.lab.2, .rs 3 (tmCs t.kids)] (.op i2 0 0) (.op i3 0 0) h_29 Q := by
  unfold sm
  simp only [w_agg, List.length_cons, List.length_nil, true_and, g_0, g_1]
  rw [w_store h2]
  refine ⟨by simp, by simp, ?_⟩
  rw [← tm_eta]
  simp only [w_agg, List.length_cons, List.length_nil, true_and, g_0, g_1, g_2]
  rw [w_store (by rw [Heap.set_ne (Ne.symm hne)]; exact h3)]
  refine ⟨by simp, by simp, own_k0 H Sm ht x0 x1 x2 ⟨?_, Heap.set_same _ _ _⟩ hq⟩
  rw [Heap.set_ne hne, Heap.set_same]; rfl
theorem own_leafA (H : SOk s) (Sm : Small s) (ht : t.nodes ≤ 3000) {x0 x1 x2 : AV} {h : Heap} {Q : AV → Heap → Prop} (hq : ∀ h, Q (B true) h) (h2 : h i2 = none) (h3 : (h.set i2 (.arr 2 [[.e0, .e0]])) i3 = none) :
    aggA 2 (sm s) fun c_26 =>
     storeG (.op i2 0 0) [(g c_26 0), (g c_26 1)] ((h.set i2 (.arr 2 [[.e0, .e0]])).set i3 (.arr 3 [[I 0, I 0, .e0]])) fun h_27 =>
     aggA 3 (tm t) fun c_28 =>
     storeG (.op i3 0 0) [(g c_28 0), (g c_28 1), (g c_28 2)] h_27 fun h_29 =>
     vlaw19_FlowOwn_k0 x0 x1 x2 [.rs 2 (syCs s.syms), .rs 5 (fnCs s.funs)] [I a, I b] [I t.lab.1, I t.lab.2, .rs 3 (tmCs t.kids)] (.op i2 0 0) (.op i3 0 0) h_29 Q := by
  have hne : i2 ≠ i3 := fun e => by subst e; rw [Heap.set_same] at h3; cases h3
  exact own_leaf H Sm ht x0 x1 x2 hq hne (by rw [Heap.set_ne hne, Heap.set_same]) (Heap.set_same _ _ _)
theorem own_leafB (H : SOk s) (Sm : Small s) (ht : t.nodes ≤ 3000) {x0 x1 x2 : AV} {h : Heap} {Q : AV → Heap → Prop} (hq : ∀ h, Q (B true) h) (h3 : h i3 = none) (h2 : (h.set i3 (.arr 3 [[I 0, I 0, .e0]])) i2 = none) :
    aggA 2 (sm s) fun c_26 =>
     storeG (.op i2 0 0) [(g c_26 0), (g c_26 1)] ((h.set i3 (.arr 3 [[I 0, I 0, .e0]])).set i2 (.arr 2 [[.e0, .e0]])) fun h_27 =>
     aggA 3 (tm t) fun c_28 =>
     storeG (.op i3 0 0) [(g c_28 0), (g c_28 1), (g c_28 2)] h_27 fun h_29 =>
     vlaw19_FlowOwn_k0 x0 x1 x2 [.rs 2 (syCs s.syms), .rs 5 (fnCs s.funs)] [I a, I b] [I t.lab.1, I t.lab.2, .rs 3 (tmCs t.kids)] (.op i2 0 0) (.op i3 0 0) h_29 Q := by
  have hne : i2 ≠ i3 := fun e => by subst e; rw [Heap.set_same] at h2; cases h2
  exact own_leaf H Sm ht x0 x1 x2 hq hne (Heap.set_same _ _ _) (by rw [Heap.set_ne (Ne.symm hne), Heap.set_same])
end
theorem law_FlowOwn (s : Sch) (p : Int × Int) (t : Tm) {h : Heap} {Q : AV → Heap → Prop} (hq : ∀ h, Q (B true) h) : ACalls prog n_vlaw19_FlowOwn [sm s, plI p, tm t] h Q := by
  obtain ⟨a, b⟩ := p
  have al : ∀ {h : Heap}, callS prog n_vlaw19_alive [] h fun r h => retA r h Q := fun {h} => callS_of (vlaw19_alive_c (retA_of (hq h)))
  refine vlaw19_FlowOwn_call ?_
  unfold vlaw19_FlowOwn sm plI
  rw [show tm t = .agg [I t.lab.1, I t.lab.2, .rs 3 (tmCs t.kids)] from (tm_eta t).symm]
  simp only [w_agg, List.length_cons, List.length_nil, true_and, g_0, g_1, g_2]
  rw [tm_eta, sm_eta]
  refine callS_of (vlaw19_heavy_c s (fun _ _ => ?_) fun hsm => ?_)
  · simp only [w_brA, if_true]
    exact al
  simp only [w_brA, Bool.false_eq_true, if_false]
  refine callS_of (vref03_Is_c s ?_)
  by_cases H : SOk s
  case neg =>
    have e : schB s = false := by
      cases h : schB s with
      | false => rfl
      | true => exact absurd ((schB_iff s).1 h) H
    rw [e]
    simp only [w_notA, Bool.not_false, w_brA, if_true]
    exact al
  rw [(schB_iff s).2 H]
  simp only [w_notA, Bool.not_true, w_brA, Bool.false_eq_true, if_false]
  have Sm := hsm H
  refine callS_of (vref02_Nodes_c t (m := 3000) (by omega) ?_)
  rw [w_gtr, w_brA]
  by_cases hbig : 3000 < t.nodes
  · have : (3000 : Int) < (min t.nodes (3000 + 1) : Nat) := by omega
    simp only [this, decide_true, if_true]
    exact al
  have : ¬ (3000 : Int) < (min t.nodes (3000 + 1) : Nat) := by omega
  simp only [this, decide_false, Bool.false_eq_true, if_false, and_true]
  have ht : t.nodes ≤ 3000 := by omega
  have htb : t.nodes ≤ 1000000000 := by omega
  clear this hbig al
  refine ⟨callS_of (vref03_Copy_c s H ⟨callS_of (vref02_Copy_f t htb ⟨fun i hi j hj => (own_leafA H Sm ht hq hi hj), fun i hi j hj => (own_leafB H Sm ht hq hi hj)⟩), fun i hi => ⟨callS_of (vref02_Copy_f t htb (fun j hj => (own_leafA H Sm ht hq hi hj))), fun j hj => callS_of (vref02_Copy_f t htb (own_leafA H Sm ht hq hi hj))⟩, fun i hi => ⟨callS_of (vref02_Copy_f t htb (fun j hj => (own_leafB H Sm ht hq hi hj))), fun j hj => callS_of (vref02_Copy_f t htb (own_leafB H Sm ht hq hi hj))⟩⟩),
    ?_, ?_⟩
  · exact fun i hi => ⟨callS_of (vref03_Copy_c s H ⟨callS_of (vref02_Copy_f t htb (fun j hj => (own_leafA H Sm ht hq hi hj))), fun j hj => callS_of (vref02_Copy_f t htb (own_leafA H Sm ht hq hi hj))⟩), fun j hj => callS_of (vref03_Copy_c s H (callS_of (vref02_Copy_f t htb (own_leafA H Sm ht hq hi hj))))⟩
  · exact fun i hi => ⟨callS_of (vref03_Copy_c s H ⟨callS_of (vref02_Copy_f t htb (fun j hj => (own_leafB H Sm ht hq hi hj))), fun j hj => callS_of (vref02_Copy_f t htb (own_leafB H Sm ht hq hi hj))⟩), fun j hj => callS_of (vref03_Copy_c s H (callS_of (vref02_Copy_f t htb (own_leafB H Sm ht hq hi hj))))⟩
end Am
