/- Short texts of functions, made by program; each with its contract's rule. -/
import Derived.Test.YtoifckjdnldlpaaZG0
set_option linter.unusedVariables false
set_option linter.unusedSimpArgs false
namespace Am
open Go Go.Proofs.Try
def vlaw19_FlowLess (a0 a1 : AV) (h : Heap) (Q : AV → Heap → Prop) : Prop :=
 aggA 2 a0 fun c_1 =>
 aggA 5 a1 fun c_2 =>
 appA 5 80 .e0 (g c_1 1) h fun x_3 h_4 =>
 appA 5 80 x_3 (.rs 5 [[(g c_2 0), (g c_2 1), (g c_2 2), (g c_2 3), (g c_2 4)]]) h_4 fun x_5 h_6 =>
 oneA x_5 <|
 callS prog n_vref03_Is [(.agg [(g c_1 0), (g c_1 1)])] h_6 fun r_7 h_8 =>
 notA r_7 fun x_9 =>
 brA x_9 (callS prog n_vlaw19_alive [] h_8 fun r_10 h_11 =>
 retA r_10 h_11 Q) (callS prog n_vref03_Is [(.agg [(g c_1 0), x_5])] h_8 fun r_12 h_13 =>
 notA r_12 fun x_14 =>
 brA x_14 (callS prog n_vlaw19_alive [] h_13 fun r_15 h_16 =>
 retA r_15 h_16 Q) (callS prog n_vlaw19_small [(.agg [(g c_1 0), x_5])] h_13 fun r_17 h_18 =>
 notA r_17 fun x_19 =>
 brA x_19 (callS prog n_vlaw19_alive [] h_18 fun r_20 h_21 =>
 retA r_20 h_21 Q) (callS prog n_flow_Flow [(.agg [(g c_1 0), (g c_1 1)])] h_18 fun r_22 h_23 =>
 tupA r_22 0 fun x_24 =>
 tupA r_22 1 fun x_25 =>
 callS prog n_flow_Flow [(.agg [(g c_1 0), x_5])] h_23 fun r_26 h_27 =>
 tupA r_26 0 fun x_28 =>
 tupA r_26 1 fun x_29 =>
 binA .neq x_25 (I 0) fun x_30 =>
 brA x_30 (retA (B false) h_27 Q) (binA .neq x_29 (I 0) fun x_31 =>
 brA x_31 (retA (B false) h_27 Q) (lenA x_28 fun x_32 =>
 lenA x_24 fun x_33 =>
 binA .add x_33 (I 1) fun x_34 =>
 binA .neq x_32 x_34 fun x_35 =>
 brA x_35 (retA (B false) h_27 Q) (lenA x_24 fun x_36 =>
 loopS (fun s_37 h_38 K_39 =>
 binA .lss (g s_37 0) x_36 fun x_40 =>
 brA x_40 (idxA 1 x_24 (g s_37 0) h_38 fun p_41 =>
 loadV p_41 h_38 fun x_42 =>
 lenA x_42 fun x_43 =>
 idxA 1 x_28 (g s_37 0) h_38 fun p_44 =>
 loadV p_44 h_38 fun x_45 =>
 lenA x_45 fun x_46 =>
 binA .neq x_43 x_46 fun x_47 =>
 brA x_47 (retA (B false) h_38 Q) (idxA 1 x_24 (g s_37 0) h_38 fun p_48 =>
 loadV p_48 h_38 fun x_49 =>
 lenA x_49 fun x_50 =>
 loopS (fun s_51 h_52 K_53 =>
 binA .lss (g s_51 0) x_50 fun x_54 =>
 brA x_54 (idxA 1 x_24 (g s_37 0) h_52 fun p_55 =>
 loadV p_55 h_52 fun x_56 =>
 idxA 1 x_56 (g s_51 0) h_52 fun p_57 =>
 loadV p_57 h_52 fun x_58 =>
 lenA x_58 fun x_59 =>
 idxA 1 x_28 (g s_37 0) h_52 fun p_60 =>
 loadV p_60 h_52 fun x_61 =>
 idxA 1 x_61 (g s_51 0) h_52 fun p_62 =>
 loadV p_62 h_52 fun x_63 =>
 lenA x_63 fun x_64 =>
 binA .neq x_59 x_64 fun x_65 =>
 brA x_65 (retA (B false) h_52 Q) (idxA 1 x_24 (g s_37 0) h_52 fun p_66 =>
 loadV p_66 h_52 fun x_67 =>
 idxA 1 x_67 (g s_51 0) h_52 fun p_68 =>
 loadV p_68 h_52 fun x_69 =>
 lenA x_69 fun x_70 =>
 loopS (fun s_71 h_72 K_73 =>
 binA .lss (g s_71 0) x_70 fun x_74 =>
 brA x_74 (idxA 1 x_24 (g s_37 0) h_72 fun p_75 =>
 loadV p_75 h_72 fun x_76 =>
 idxA 1 x_76 (g s_51 0) h_72 fun p_77 =>
 loadV p_77 h_72 fun x_78 =>
 idxA 2 x_78 (g s_71 0) h_72 fun p_79 =>
 loadG 2 p_79 h_72 fun c_80 =>
 idxA 1 x_28 (g s_37 0) h_72 fun p_81 =>
 loadV p_81 h_72 fun x_82 =>
 idxA 1 x_82 (g s_51 0) h_72 fun p_83 =>
 loadV p_83 h_72 fun x_84 =>
 idxA 2 x_84 (g s_71 0) h_72 fun p_85 =>
 loadG 2 p_85 h_72 fun c_86 =>
 eqA [(.int .i64), (.int .i64)] true (.agg [(g c_80 0), (g c_80 1)]) (.agg [(g c_86 0), (g c_86 1)]) fun x_87 =>
 brA x_87 (retA (B false) h_72 Q) (binA .add (g s_71 0) (I 1) fun x_88 =>
 K_73 [x_88] h_72)) (binA .add (g s_51 0) (I 1) fun x_89 =>
 K_53 [x_89] h_72)) [(I 0)] h_52)) (binA .add (g s_37 0) (I 1) fun x_90 =>
 K_39 [x_90] h_52)) [(I 0)] h_38)) (callS prog n_vlaw19_alive [] h_38 fun r_91 h_92 =>
 retA r_91 h_92 Q)) [(I 0)] h_27))))))
def c_vlaw19_FlowLess : Cfg := ⟨tab, [], [(10, ⟨[62], [], [4, 10, 11, 12, 62, 63, 64, 65, 66, 67, 68, 69, 70, 71, 72, 73, 74, 75, 76, 77, 78, 79, 80, 81, 82, 83, 84, 85, 86, 87, 88, 89, 90, 91, 92, 93, 94, 95, 96, 97, 98, 99, 100, 101, 102, 103, 104, 105, 106, 107, 108, 109, 110, 111, 112, 113, 114, 115, 116, 117, 118, 119, 120, 121, 122, 123, 124, 125, 126, 127, 128, 129, 130, 131, 132, 133, 134, 135]⟩), (15, ⟨[81], [], [4, 11, 12, 81, 82, 83, 84, 85, 86, 87, 88, 89, 90, 91, 92, 93, 94, 95, 96, 97, 98, 99, 100, 101, 102, 103, 104, 105, 106, 107, 108, 109, 110, 111, 112, 113, 114, 115, 116, 117, 118, 119, 120, 121, 122, 123, 124, 125, 126, 127, 128, 129, 130, 131, 132, 133, 134]⟩), (20, ⟨[109], [], [4, 12, 109, 110, 111, 112, 113, 114, 115, 116, 117, 118, 119, 120, 121, 122, 123, 124, 125, 126, 127, 128, 129, 130, 131, 132, 133]⟩)], [(2, [0, 1, 2, 4, 5, 3, 6, 7, 8]), (12, [0, 1, 2, 3, 4, 5, 6, 7, 8, 9, 10]), (17, [0, 1, 2, 3, 4, 5, 6, 7, 8, 9, 10, 11, 12, 13, 14, 15, 16]), (22, [0, 1, 2, 3, 4, 5, 6, 7, 8, 9, 10, 11, 12, 13, 14, 15, 16, 17, 18, 19, 20])], [16, 67, 68, 72, 73, 86, 87, 89, 90, 94, 95, 97, 98, 114, 115, 117, 118, 120, 121, 124, 125, 127, 128, 130, 131], []⟩
theorem vlaw19_FlowLess_eq (a0 a1 : AV) (h : Heap) (Q : AV → Heap → Prop) : abody prog c_vlaw19_FlowLess f22 [a0, a1] h Q = vlaw19_FlowLess a0 a1 h Q := by kernel_rfl
theorem vlaw19_FlowLess_ok : fnB c_vlaw19_FlowLess f22 = true := by kernel_rfl
theorem vlaw19_FlowLess_call {a0 a1 : AV} {h : Heap} {Q : AV → Heap → Prop} (hk : vlaw19_FlowLess a0 a1 h Q) : ACalls prog n_vlaw19_FlowLess [a0, a1] h Q := contract (cf := c_vlaw19_FlowLess) tab_ok prog_mixed func22 vlaw19_FlowLess_ok (Eq.mpr (vlaw19_FlowLess_eq a0 a1 h Q) hk)
def vlaw19_small (a0 : AV) (h : Heap) (Q : AV → Heap → Prop) : Prop :=
 aggA 2 a0 fun c_1 =>
 lenA (g c_1 1) fun x_2 =>
 loopS (fun s_3 h_4 K_5 =>
 binA .lss (g s_3 1) x_2 fun x_6 =>
 brA x_6 (idxA 5 (g c_1 1) (g s_3 1) h_4 fun p_7 =>
 loadG 5 p_7 h_4 fun c_8 =>
 callS prog n_vref02_Nodes [(.agg [(g c_8 2), (g c_8 3), (g c_8 4)]), (I 400)] h_4 fun r_9 h_10 =>
 binA .add (g s_3 0) r_9 fun x_11 =>
 binA .add (g s_3 1) (I 1) fun x_12 =>
 K_5 [x_11, x_12] h_10) (binA .leq (g s_3 0) (I 150) fun x_13 =>
 retA x_13 h_4 Q)) [(I 0), (I 0)] h
def c_vlaw19_small : Cfg := ⟨tab, [], [(3, ⟨[3, 9], [], [3, 5, 9, 10, 11, 12, 13, 14, 15, 16, 17, 18]⟩)], [], [], []⟩
theorem vlaw19_small_eq (a0 : AV) (h : Heap) (Q : AV → Heap → Prop) : abody prog c_vlaw19_small f79 [a0] h Q = vlaw19_small a0 h Q := by kernel_rfl
theorem vlaw19_small_ok : fnB c_vlaw19_small f79 = true := by kernel_rfl
theorem vlaw19_small_call {a0 : AV} {h : Heap} {Q : AV → Heap → Prop} (hk : vlaw19_small a0 h Q) : ACalls prog n_vlaw19_small [a0] h Q := contract (cf := c_vlaw19_small) tab_ok prog_mixed func79 vlaw19_small_ok (Eq.mpr (vlaw19_small_eq a0 h Q) hk)
end Am
