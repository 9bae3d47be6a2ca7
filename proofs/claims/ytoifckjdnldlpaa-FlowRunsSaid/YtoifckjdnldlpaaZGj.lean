/- FlowRuns answers true. -/
import Derived.Test.YtoifckjdnldlpaaZGh
import Derived.Test.YtoifckjdnldlpaaZGf
import Derived.Test.YtoifckjdnldlpaaZFV
set_option linter.unusedVariables false
set_option linter.unusedSimpArgs false
namespace Am
open Go Go.Proofs.Try
theorem vref05_Next_c {s : Sch} {g : Nat} {θ : List Tm} (hg : g < s.funs.length) (hl : θ.length ≤ 100000) {h : Heap} {Q : AV → Heap → Prop}
    (hq : Q (.tup [tm (substE (s.funs.getD g default).body θ).1, B (decide ((substE (s.funs.getD g default).body θ).2 = 0)), I (substE (s.funs.getD g default).body θ).2]) h) : ACalls prog n_vref05_Next [sm s, tm (.mk (1, (g : Int)) θ)] h Q := by
  refine vref05_Next_call ?_
  unfold vref05_Next sm tm
  simp only [tmC, w_agg, List.length_cons, List.length_nil, true_and, g_0, g_1, g_2, w_neq, w_brA, decide_true, Bool.not_true, Bool.false_eq_true, if_false]
  refine ix_rs (by rw [fnCs_len]; exact hg) (fn_get hg) ?_
  rw [fnC, w_fld_ro, List.drop_succ_cons, List.drop_succ_cons, List.drop_zero, w_loadG_ro]
  refine ⟨by simp, ?_⟩
  simp only [g_0, g_1, g_2]
  rw [tm_eta]
  refine callS_of (vref02_Subst_c _ θ (by omega) (by omega) ?_)
  refine tp0 (tp1 ?_)
  rw [← tm_eta] at hq ⊢
  simp only [w_agg, List.length_cons, List.length_nil, true_and, g_0, g_1, g_2, w_eql]
  exact retA_of hq
theorem substE_fin {t : Tm} {args : List Tm} (h : (substE t args).2 = 0) : (substE t args).1 = sub args t ∧ (sub args t).nodes ≤ 100000 := by
  unfold substE at h ⊢
  split at h
  · cases h
  · rename_i h1
    split at h
    · cases h
    · rename_i h2
      split at h
      · cases h
      · rename_i h3
        rw [if_neg h1, if_neg h2, if_neg h3]
        exact ⟨rfl, by omega⟩
def lo63 (L : Int) : Prop := -9223372036854775808 ≤ L ∧ L < 9223372036854775808
def mL (L : Int) : Nat := if L = -9223372036854775808 then 18446744073709551616 else L.toNat
theorem lo63_wrap (n : Int) : lo63 (IntKind.i64.wrap n) := by
  rw [IntKind.wrap_i64]; unfold lo63; omega
theorem mL_less {L : Int} (h : lo63 L) (hn : ¬ IntKind.i64.wrap (L - 1) < 0) : mL (IntKind.i64.wrap (L - 1)) < mL L := by
  rw [IntKind.wrap_i64] at hn ⊢
  unfold lo63 at h
  unfold mL
  split <;> split <;> omega
def RS (s : Sch) (bl : List Bool) (d : Nat) : Prop := ∀ (t : Tm) {h : Heap} {i : Nat} {L : Int} {Q : AV → Heap → Prop}, GT s (Rb bl) t → t.nodes ≤ 100000 → h i = some (.arr 1 [[I L]]) → lo63 L →
  (∀ L', lo63 L' → Q (B true) (h.set i (.arr 1 [[I L']]))) → ACalls prog n_vlaw19_runs [sm s, .rs 1 (bCs bl), tm t, I (d : Nat), .op i 0 0] h Q
theorem runs_step {s : Sch} {bl : List Bool} (H : SOk s) (Sm : Small s) (hb : IsR s bl) {d : Nat} (hd8 : d ≤ 1000) (ih : ∀ d', d = d' + 1 → RS s bl d') : RS s bl d := by
  intro t h i L Q hgt hn hi hL hq
  refine vlaw19_runs_call ?_
  unfold vlaw19_runs
  rw [show tm t = .agg [I t.lab.1, I t.lab.2, .rs 3 (tmCs t.kids)] from (tm_eta t).symm]
  unfold sm
  simp only [w_agg, List.length_cons, List.length_nil, true_and, g_0, g_1, g_2]
  rw [sm_eta]
  refine loop_down (fun m σ' h' => ∃ (t : Tm) (L : Int), σ' = [I t.lab.1, I t.lab.2, .rs 3 (tmCs t.kids)] ∧ GT s (Rb bl) t ∧ t.nodes ≤ 100000 ∧ h' = h.set i (.arr 1 [[I L]]) ∧ lo63 L ∧ m = mL L) (mL L) ⟨t, L, rfl, hgt, hn, (Heap.set_id hi).symm, hL, rfl⟩ ?_
  clear hgt hn hL hi
  rintro m σ' h' K ⟨t, L, rfl, hgt, hn, rfl, hL, rfl⟩ hK
  simp only [g_0, g_1, g_2]
  have hkn : Rt.nodesL t.kids + 1 = t.nodes := by cases t; simp only [Rt.nodes, Rt.kids]
  have hkl := Rt.length_le t.kids
  rcases hgt with ⟨g, g1, g2, g3, g4, g5⟩ | ⟨g1, g2⟩
  · have e1 : t.lab.1 = 1 := by rw [g1]
    have e2 : t.lab.2 = g := by rw [g1]
    have et : (Rt.mk (1, (g : Int)) t.kids : Tm) = t := by rw [← g1]; cases t; rfl
    rw [e1, e2]
    simp only [w_eql, decide_true, w_brA, if_true]
    rw [w_nil_op]
    refine ld (x := I L) (Heap.set_same _ _ _) (by omega) rfl ?_
    rw [w_sub, w_nil_op, w_one_v]
    refine st_at (Heap.set_same _ _ _) (by omega) ?_
    rw [Heap.set_set]
    have es : ([I L] : List AV).set 0 (I (IntKind.i64.wrap (L - 1))) = [I (IntKind.i64.wrap (L - 1))] := rfl
    rw [es, w_nil_op]
    obtain ⟨L1, hL1⟩ : ∃ L1, L1 = IntKind.i64.wrap (L - 1) := ⟨_, rfl⟩
    have hLr : lo63 L1 := by rw [hL1]; exact lo63_wrap _
    have hless : ¬ L1 < 0 → mL L1 < mL L := fun h => by rw [hL1] at h ⊢; exact mL_less hL h
    rw [← hL1]
    refine ld (x := I L1) (Heap.set_same _ _ _) (by omega) rfl ?_
    rw [w_lss, w_brA]
    by_cases hneg : L1 < 0
    · simp only [hneg, decide_true, if_true]
      exact retA_of (hq L1 hLr)
    simp only [hneg, decide_false, Bool.false_eq_true, if_false]
    have ett : (.agg [I 1, I (g : Nat), .rs 3 (tmCs t.kids)] : AV) = tm t := by
      rw [← tm_eta, e1, e2]
    rw [ett]
    refine callS_of (vref02_Nodes_c t (m := 400) (by omega) ?_)
    rw [w_gtr, w_brA]
    by_cases hbig : 400 < t.nodes
    · have : (400 : Int) < (min t.nodes (400 + 1) : Nat) := by omega
      simp only [this, decide_true, if_true]
      exact retA_of (hq L1 hLr)
    have : ¬ (400 : Int) < (min t.nodes (400 + 1) : Nat) := by omega
    simp only [this, decide_false, Bool.false_eq_true, if_false]
    have hgb : g < bl.length := by rw [hb.1]; exact g2
    refine ix_rs (by rw [bCs_len]; exact hgb) (bCs_get hgb) ?_
    have hbg : bl.getD g false = true := g3
    rw [w_loadV_ro, hbg]
    simp only [g_0, w_notA, Bool.not_true, w_brA, Bool.false_eq_true, if_false, w_len_rs, tmCs_len]
    refine loop_ix t.kids.length (fun _ => True) trivial fun j hj _ K2 hK2 => ?_
    simp only [g_0]
    by_cases hlt : j < t.kids.length
    · have hlt' : (j : Int) < t.kids.length := by omega
      simp only [w_lss, hlt', decide_true, w_brA, if_true]
      refine ix_rs (by simpa using hlt) (tmCs_get hlt) ?_
      rw [w_loadG_ro]
      refine ⟨by simp, ?_⟩
      simp only [List.drop_zero, tmC_0, tmC_1, tmC_2, tm_eta]
      have hkj := kid_nodes hlt
      have hin : inK s (g : Nat) (j : Nat) := ⟨by omega, by omega, by omega, by rw [Int.toNat_natCast]; omega⟩
      have hkd : t.kids.getD j default = t.kids[j] := by simp [List.getD_eq_getElem?_getD, hlt]
      obtain ⟨q, q1, q2⟩ := g5 j hlt
      rw [hkd] at q2
      refine callS_of (flow_Comes_c s (g : Nat) (j : Nat) t.kids[j] (fun _ => Sm) ⟨fun h => absurd H h, fun _ h => absurd hin h, fun _ _ h => by omega, fun _ _ _ bl' F hbl' hF => ?_⟩)
      have := hb.unique hbl'
      subst this
      have hany : anyM s (F (((g : Nat) : Int).toNat, ((j : Nat) : Int).toNat)) t.kids[j] = true := by
        rw [Int.toNat_natCast, Int.toNat_natCast]
        exact List.any_eq_true.2 ⟨q, (hF.mem _ _).2 q1, q2.mtch⟩
      rw [hany]
      refine tp0 (tp1 ?_)
      simp only [w_neq, decide_true, Bool.not_true, w_brA, Bool.false_eq_true, if_false, w_notA]
      rw [w_add, wrap_k (k := j) (by omega)]
      exact hK2 hlt trivial
    · have hje : j = t.kids.length := by omega
      subst hje
      simp only [w_lss, Int.lt_irrefl, decide_false, w_brA, Bool.false_eq_true, if_false]
      have nx : ∀ {h : Heap} {Q : AV → Heap → Prop}, Q (.tup [tm (substE (s.funs.getD g default).body t.kids).1, B (decide ((substE (s.funs.getD g default).body t.kids).2 = 0)), I (substE (s.funs.getD g default).body t.kids).2]) h → ACalls prog n_vref05_Next [sm s, tm t] h Q := fun {h Q} hq => by
        have := vref05_Next_c (θ := t.kids) g2 (by omega) hq
        rwa [et] at this
      refine callS_of (nx ?_)
      refine tp0 (tp1 (tp2 ?_))
      rw [← tm_eta]
      simp only [w_agg, List.length_cons, List.length_nil, true_and, g_0, g_1, g_2, w_neq, w_brA]
      by_cases he : (substE (s.funs.getD g default).body t.kids).2 = 0
      · simp only [he, decide_true, Bool.not_true, Bool.false_eq_true, if_false]
        obtain ⟨o1, o5⟩ := substE_fin he
        refine hK (mL L1) _ _ (hless hneg) ⟨(substE (s.funs.getD g default).body t.kids).1, L1, rfl, ?_, by rw [o1]; exact o5, rfl, hLr, rfl⟩
        rw [o1]
        exact GT.next H hb g2 g3 g4 g5
      · simp only [he, decide_false, Bool.not_false, if_true]
        exact retA_of (hq L1 hLr)
  · rw [g1]
    simp only [w_eql, show ¬ ((2 : Int) = 1) by omega, decide_false, w_brA, Bool.false_eq_true, if_false, w_len_rs, tmCs_len]
    refine loop_up t.kids.length (fun j σ' h' => σ' = [I j] ∧ ∃ L, h' = h.set i (.arr 1 [[I L]]) ∧ lo63 L) ⟨rfl, L, rfl, hL⟩ (fun k σ' h' ⟨e, _⟩ => by rw [e]; rfl) ?_
    rintro j σ' h2 K2 hj ⟨rfl, L2, rfl, hL2⟩ hK2
    simp only [g_0]
    by_cases hlt : j < t.kids.length
    · have hlt' : (j : Int) < t.kids.length := by omega
      simp only [w_lss, hlt', decide_true, w_brA, if_true]
      refine ix_rs (by simpa using hlt) (tmCs_get hlt) ?_
      rw [w_loadG_ro]
      refine ⟨by simp, ?_⟩
      simp only [List.drop_zero, tmC_0, tmC_1, tmC_2, tm_eta]
      rw [w_gtr, w_brA]
      have hkj := kid_nodes hlt
      have hkd : t.kids.getD j default = t.kids[j] := by simp [List.getD_eq_getElem?_getD, hlt]
      obtain ⟨q, q1, q2⟩ := g2 j hlt
      rw [hkd] at q2
      cases d with
      | zero =>
        simp only [show ¬ ((0 : Int) < ((0 : Nat) : Int)) by omega, decide_false, Bool.false_eq_true, if_false]
        rw [w_add, wrap_k (k := j) (by omega)]
        exact hK2 hlt _ _ ⟨rfl, L2, rfl, hL2⟩
      | succ d =>
        have : (0 : Int) < ((d + 1 : Nat) : Int) := by omega
        simp only [this, decide_true, if_true]
        rw [w_sub, wrap_i64 (by omega) (by omega), show ((d + 1 : Nat) : Int) - 1 = (d : Nat) by omega]
        refine callS_of (ih d rfl t.kids[j] (q2.gt H hb q1) (by omega) (Heap.set_same _ _ _) hL2 fun L3 hL3 => ?_)
        simp only [w_notA, Bool.not_true, w_brA, Bool.false_eq_true, if_false]
        rw [Heap.set_set, w_add, wrap_k (k := j) (by omega)]
        exact hK2 hlt _ _ ⟨rfl, L3, rfl, hL3⟩
    · have hje : j = t.kids.length := by omega
      subst hje
      simp only [w_lss, Int.lt_irrefl, decide_false, w_brA, Bool.false_eq_true, if_false]
      exact retA_of (hq L2 hL2)
theorem runs_c {s : Sch} {bl : List Bool} (H : SOk s) (Sm : Small s) (hb : IsR s bl) : ∀ d : Nat, d ≤ 1000 → RS s bl d
  | 0, _ => runs_step H Sm hb (by omega) fun d' e => by omega
  | d + 1, hd => runs_step H Sm hb hd fun d' e => by
    have : d' = d := by omega
    subst this
    exact runs_c H Sm hb d' (by omega)
theorem law_FlowRuns (s : Sch) {h : Heap} {Q : AV → Heap → Prop} (hq : ∀ h, Q (B true) h) : ACalls prog 26 [sm s] h Q := by
  have al : ∀ {h : Heap}, callS prog n_vlaw19_alive [] h fun r h => retA r h Q := fun {h} => callS_of (vlaw19_alive_c (retA_of (hq h)))
  refine vlaw19_FlowRuns_call ?_
  unfold vlaw19_FlowRuns sm
  simp only [w_agg, List.length_cons, List.length_nil, true_and, g_0, g_1]
  rw [sm_eta]
  refine callS_of (vlaw19_heavy_c s (fun _ _ => ?_) fun hsm => ?_)
  · simp only [w_brA, if_true]
    exact al
  simp only [w_brA, Bool.false_eq_true, if_false]
  refine callS_of (vref03_Is_c s ?_)
  by_cases H : SOk s
  case neg =>
    rw [schB_no H]
    simp only [w_notA, Bool.not_false, w_brA, if_true]
    exact al
  rw [(schB_iff s).2 H]
  simp only [w_notA, Bool.not_true, w_brA, Bool.false_eq_true, if_false]
  have Sm := hsm H
  have hfew := H.few
  have hpos := H.pos
  refine callS_of (flow_Reached_c s H fun bl hb => tp0 (tp1 ?_))
  simp only [w_neq, w_brA, decide_true, Bool.not_true, Bool.false_eq_true, if_false, w_len_rs, bCs_len, fnCs_len, hb.1]
  have h0 : (0 : Nat) < bl.length := by rw [hb.1]; omega
  refine ix_rs (n := 0) (by rw [bCs_len]; exact h0) (bCs_get h0) ?_
  have hb0 : bl.getD 0 false = true := (hb.2 0 (by omega)).2 .zero
  rw [w_loadV_ro, hb0]
  simp only [g_0, w_notA, Bool.not_true, w_brA, Bool.false_eq_true, if_false]
  intro i hi
  rw [w_one_v]
  refine st_at (Heap.set_same _ _ _) (by omega) ?_
  rw [Heap.set_set, w_one_v]
  have es : ([I 0] : List AV).set 0 (I 60) = [I 60] := rfl
  rw [es]
  refine callS_wk (args' := [sm s, .rs 1 (bCs bl), tm (.mk (1, 0) []), I (8 : Nat), .op i 0 0]) (.cons .refl (.cons .refl (.cons ?_ (.cons .refl (.cons .refl .nil))))) (HRef.refl _) ?_
  · exact Ref.aggs (.cons .refl (.cons .refl (.cons .e0 .nil)))
  refine runs_c H Sm hb 8 (by omega) (.mk (1, 0) []) (GT.start H hb) (by simp [Rt.nodes, Rt.nodesL]) (Heap.set_same _ _ _) ⟨by omega, by omega⟩ fun L' _ => ?_
  simp only [w_brA, if_true]
  exact al
end Am
