/- Short texts of functions, made by program; each with its contract's rule. -/
import Derived.Test.YtoifckjdnldlpaaGreatZG0
set_option linter.unusedVariables false
set_option linter.unusedSimpArgs false
namespace Am
open Go Go.Proofs.Tryz
def vlaw19_FlowHeads (a0 a1 : AV) (h : Heap) (Q : AV → Heap → Prop) : Prop :=
 aggA 2 a0 fun c_1 =>
 aggA 2 a1 fun c_2 =>
 callS prog n_vlaw19_heavy [(.agg [(g c_1 0), (g c_1 1)])] h fun r_3 h_4 =>
 brA r_3 (callS prog n_vlaw19_alive [] h_4 fun r_5 h_6 =>
 retA r_5 h_6 Q) (callS prog n_flow_Heads [(.agg [(g c_1 0), (g c_1 1)]), (.agg [(g c_2 0), (g c_2 1)])] h_4 fun r_7 h_8 =>
 tupA r_7 0 fun x_9 =>
 tupA r_7 1 fun x_10 =>
 callS prog n_vref19_Heads [(.agg [(g c_1 0), (g c_1 1)]), (.agg [(g c_2 0), (g c_2 1)])] h_8 fun r_11 h_12 =>
 tupA r_11 0 fun x_13 =>
 tupA r_11 1 fun x_14 =>
 binA .eql x_10 x_14 fun x_15 =>
 brA x_15 (callS prog n_vlaw19_ints [x_9, x_13] h_12 fun r_16 h_17 =>
 brA r_16 (callS prog n_vlaw19_alive [] h_17 fun r_18 h_19 =>
 retA r_18 h_19 Q) (retA (B false) h_17 Q)) (retA (B false) h_12 Q))
def c_vlaw19_FlowHeads : Cfg := ⟨tab, [], [], [], [], []⟩
theorem vlaw19_FlowHeads_eq (a0 a1 : AV) (h : Heap) (Q : AV → Heap → Prop) : abody prog c_vlaw19_FlowHeads f5 [a0, a1] h Q = vlaw19_FlowHeads a0 a1 h Q := by kernel_rfl
theorem vlaw19_FlowHeads_ok : fnB c_vlaw19_FlowHeads f5 = true := by kernel_rfl
theorem vlaw19_FlowHeads_call {a0 a1 : AV} {h : Heap} {Q : AV → Heap → Prop} (hk : vlaw19_FlowHeads a0 a1 h Q) : ACalls prog n_vlaw19_FlowHeads [a0, a1] h Q := contract (cf := c_vlaw19_FlowHeads) tab_ok prog_mixed func5 vlaw19_FlowHeads_ok (Eq.mpr (vlaw19_FlowHeads_eq a0 a1 h Q) hk)
def flow_Heads (a0 a1 : AV) (h : Heap) (Q : AV → Heap → Prop) : Prop :=
 aggA 2 a0 fun c_1 =>
 aggA 2 a1 fun c_2 =>
 callS prog n_scheme_Check [(.agg [(g c_1 0), (g c_1 1)])] h fun r_3 h_4 =>
 binA .neq r_3 (I 0) fun x_5 =>
 brA x_5 (retA (.tup [.e0, r_3]) h_4 Q) (callS prog n_flow_at [(.agg [(g c_1 0), (g c_1 1)]), (.agg [(g c_2 0), (g c_2 1)])] h_4 fun r_6 h_7 =>
 tupA r_6 0 fun x_8 =>
 tupA r_6 1 fun x_9 =>
 notA x_9 fun x_10 =>
 brA x_10 (retA (.tup [.e0, (I 2)]) h_7 Q) (callS prog n_flow_analyse [(.agg [(g c_1 0), (g c_1 1)]), (B false)] h_7 fun r_11 h_12 =>
 tupA r_11 0 fun x_13 =>
 tupA r_11 1 fun x_14 =>
 notA x_14 fun x_15 =>
 brA x_15 (retA (.tup [.e0, (I 3)]) h_12 Q) (callS prog n_flow_analyse [(.agg [(g c_1 0), (g c_1 1)]), (B true)] h_12 fun r_16 h_17 =>
 tupA r_16 0 fun x_18 =>
 tupA r_16 1 fun x_19 =>
 nilA x_18 <|
 fldA 4 x_18 fun p_20 =>
 loadV p_20 h_17 fun x_21 =>
 lookA [(.int .i64), (.int .i64)] false (.val (.map none)) x_21 (.agg [(g c_2 0), (g c_2 1)]) h_17 fun x_22 =>
 rangeA x_22 h_17 fun i_24 h_25 =>
 loopS (fun s_26 h_27 K_28 =>
 nextA i_24 h_27 fun x_29 h_30 =>
 tupA x_29 0 fun x_31 =>
 brA x_31 (entryA i_24 h_30 fun x_32 =>
 tupA x_32 0 fun x_33 =>
 aggA 2 x_33 fun c_34 =>
 oneA (g c_34 0) <|
 appA 1 8 (g s_26 0) (.rs 1 [[(g c_34 0)]]) h_30 fun x_35 h_36 =>
 K_28 [x_35] h_36) (callS prog n_slices_Sort_int_int [(g s_26 0)] h_30 fun r_37 h_38 =>
 callS prog n_slices_Compact_int_int [(g s_26 0)] h_38 fun r_39 h_40 =>
 retA (.tup [r_39, (I 0)]) h_40 Q)) [.e0] h_25)))
def c_flow_Heads : Cfg := ⟨tab, [], [(13, ⟨[13], [], [13, 14, 47, 48, 49, 50, 51, 52, 53, 54, 55]⟩)], [(12, [0, 1, 2, 3, 4, 5, 6])], [43, 44], []⟩
theorem flow_Heads_eq (a0 a1 : AV) (h : Heap) (Q : AV → Heap → Prop) : abody prog c_flow_Heads f20 [a0, a1] h Q = flow_Heads a0 a1 h Q := by kernel_rfl
theorem flow_Heads_ok : fnB c_flow_Heads f20 = true := by kernel_rfl
theorem flow_Heads_call {a0 a1 : AV} {h : Heap} {Q : AV → Heap → Prop} (hk : flow_Heads a0 a1 h Q) : ACalls prog n_flow_Heads [a0, a1] h Q := contract (cf := c_flow_Heads) tab_ok prog_mixed func20 flow_Heads_ok (Eq.mpr (flow_Heads_eq a0 a1 h Q) hk)
def vref19_Heads (a0 a1 : AV) (h : Heap) (Q : AV → Heap → Prop) : Prop :=
 aggA 2 a0 fun c_1 =>
 aggA 2 a1 fun c_2 =>
 callS prog n_vref19_At [(.agg [(g c_1 0), (g c_1 1)]), (.agg [(g c_2 0), (g c_2 1)])] h fun r_3 h_4 =>
 tupA r_3 0 fun x_5 =>
 tupA r_3 1 fun x_6 =>
 aggA 3 x_5 fun c_7 =>
 binA .neq x_6 (I 0) fun x_8 =>
 brA x_8 (retA (.tup [.e0, x_6]) h_4 Q) (callS prog n_vref19_known [(.agg [(g c_1 0), (g c_1 1)])] h_4 fun r_9 h_10 =>
 callS prog n_vref19_state_places [r_9] h_10 fun r_11 h_12 =>
 binA .gtr r_11 (I 200000) fun x_13 =>
 brA x_13 (retA (.tup [.e0, (I 3)]) h_12 Q) (lenA (g c_1 1) fun x_14 =>
 loopS (fun s_15 h_16 K_17 =>
 binA .lss (g s_15 1) x_14 fun x_18 =>
 brA x_18 (nilA r_9 <|
 fldA 3 r_9 fun p_19 =>
 loadV p_19 h_16 fun x_20 =>
 idxA 1 x_20 (g c_2 0) h_16 fun p_21 =>
 loadV p_21 h_16 fun x_22 =>
 idxA 1 x_22 (g c_2 1) h_16 fun p_23 =>
 loadV p_23 h_16 fun x_24 =>
 lenA x_24 fun x_25 =>
 loopS (fun s_26 h_27 K_28 =>
 binA .lss (g s_26 1) x_25 fun x_29 =>
 brA x_29 (idxA 2 x_24 (g s_26 1) h_27 fun p_30 =>
 loadG 2 p_30 h_27 fun c_31 =>
 brA (g s_26 0) (binA .add (g s_26 1) (I 1) fun x_32 =>
 K_28 [(B true), x_32] h_27) (binA .eql (g c_31 0) (g s_15 1) fun x_33 =>
 binA .add (g s_26 1) (I 1) fun x_34 =>
 K_28 [x_33, x_34] h_27)) (brA (g s_26 0) (oneA (g s_15 1) <|
 appA 1 8 (g s_15 0) (.rs 1 [[(g s_15 1)]]) h_27 fun x_35 h_36 =>
 binA .add (g s_15 1) (I 1) fun x_37 =>
 K_17 [x_35, x_37] h_36) (binA .add (g s_15 1) (I 1) fun x_38 =>
 K_17 [(g s_15 0), x_38] h_27))) [(B false), (I 0)] h_16) (retA (.tup [(g s_15 0), (I 0)]) h_16 Q)) [.e0, (I 0)] h_12))
def c_vref19_Heads : Cfg := ⟨tab, [], [(9, ⟨[9, 31], [], [9, 10, 11, 13, 31, 32, 33, 34, 35, 36, 37, 38, 39, 40, 41, 42, 43, 44, 45, 46, 47, 48, 49, 50, 51, 52, 53, 54, 55, 56, 57, 58, 59, 60, 61, 62, 63, 64]⟩), (13, ⟨[11, 47], [], [11, 13, 47, 48, 49, 50, 51, 52, 53, 54, 55, 56, 57, 58]⟩)], [(12, [0, 1, 2, 3, 4, 5, 6, 7, 8, 9, 10, 11, 12, 13])], [37, 39, 40, 41, 43, 44, 45], []⟩
theorem vref19_Heads_eq (a0 a1 : AV) (h : Heap) (Q : AV → Heap → Prop) : abody prog c_vref19_Heads f21 [a0, a1] h Q = vref19_Heads a0 a1 h Q := by kernel_rfl
theorem vref19_Heads_ok : fnB c_vref19_Heads f21 = true := by kernel_rfl
theorem vref19_Heads_call {a0 a1 : AV} {h : Heap} {Q : AV → Heap → Prop} (hk : vref19_Heads a0 a1 h Q) : ACalls prog n_vref19_Heads [a0, a1] h Q := contract (cf := c_vref19_Heads) tab_ok prog_mixed func21 vref19_Heads_ok (Eq.mpr (vref19_Heads_eq a0 a1 h Q) hk)
def vlaw19_ints (a0 a1 : AV) (h : Heap) (Q : AV → Heap → Prop) : Prop :=
 lenA a0 fun x_1 =>
 lenA a1 fun x_2 =>
 binA .neq x_1 x_2 fun x_3 =>
 brA x_3 (retA (B false) h Q) (lenA a0 fun x_4 =>
 loopS (fun s_5 h_6 K_7 =>
 binA .lss (g s_5 0) x_4 fun x_8 =>
 brA x_8 (idxA 1 a0 (g s_5 0) h_6 fun p_9 =>
 loadV p_9 h_6 fun x_10 =>
 idxA 1 a1 (g s_5 0) h_6 fun p_11 =>
 loadV p_11 h_6 fun x_12 =>
 binA .neq x_10 x_12 fun x_13 =>
 brA x_13 (retA (B false) h_6 Q) (binA .add (g s_5 0) (I 1) fun x_14 =>
 K_7 [x_14] h_6)) (retA (B true) h_6 Q)) [(I 0)] h)
def c_vlaw19_ints : Cfg := ⟨tab, [], [(4, ⟨[13], [], [4, 5, 13, 14, 15, 16, 17, 18, 19, 20, 21, 22, 23, 24, 25]⟩)], [(6, [0, 1, 2, 3, 4, 5, 6, 7, 8])], [18, 19, 22, 23], []⟩
theorem vlaw19_ints_eq (a0 a1 : AV) (h : Heap) (Q : AV → Heap → Prop) : abody prog c_vlaw19_ints f22 [a0, a1] h Q = vlaw19_ints a0 a1 h Q := by kernel_rfl
theorem vlaw19_ints_ok : fnB c_vlaw19_ints f22 = true := by kernel_rfl
theorem vlaw19_ints_call {a0 a1 : AV} {h : Heap} {Q : AV → Heap → Prop} (hk : vlaw19_ints a0 a1 h Q) : ACalls prog n_vlaw19_ints [a0, a1] h Q := contract (cf := c_vlaw19_ints) tab_ok prog_mixed func22 vlaw19_ints_ok (Eq.mpr (vlaw19_ints_eq a0 a1 h Q) hk)
end Am
