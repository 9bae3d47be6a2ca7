/- Short texts of functions, made by program; each with its contract's rule. -/
import Derived.Test.YtoifckjdnldlpaaZG0
set_option linter.unusedVariables false
set_option linter.unusedSimpArgs false
namespace Am
open Go Go.Proofs.Try
def vlaw19_FlowSorts (a0 : AV) (h : Heap) (Q : AV → Heap → Prop) : Prop :=
 aggA 2 a0 fun c_1 =>
 callS prog n_vlaw19_heavy [(.agg [(g c_1 0), (g c_1 1)])] h fun r_2 h_3 =>
 brA r_2 (callS prog n_vlaw19_alive [] h_3 fun r_4 h_5 =>
 retA r_4 h_5 Q) (callS prog n_vref03_Is [(.agg [(g c_1 0), (g c_1 1)])] h_3 fun r_6 h_7 =>
 notA r_6 fun x_8 =>
 brA x_8 (callS prog n_vlaw19_alive [] h_7 fun r_9 h_10 =>
 retA r_9 h_10 Q) (callS prog n_flow_Flow [(.agg [(g c_1 0), (g c_1 1)])] h_7 fun r_11 h_12 =>
 tupA r_11 0 fun x_13 =>
 tupA r_11 1 fun x_14 =>
 callS prog n_flow_Reached [(.agg [(g c_1 0), (g c_1 1)])] h_12 fun r_15 h_16 =>
 tupA r_15 0 fun x_17 =>
 tupA r_15 1 fun x_18 =>
 binA .neq x_14 (I 0) fun x_19 =>
 brA x_19 (binA .eql x_14 (I 3) fun x_20 =>
 retA x_20 h_16 Q) (binA .neq x_18 (I 0) fun x_21 =>
 brA x_21 (binA .eql x_14 (I 3) fun x_22 =>
 retA x_22 h_16 Q) (lenA x_13 fun x_23 =>
 lenA (g c_1 1) fun x_24 =>
 binA .neq x_23 x_24 fun x_25 =>
 brA x_25 (binA .eql x_14 (I 3) fun x_26 =>
 retA x_26 h_16 Q) (lenA x_17 fun x_27 =>
 lenA (g c_1 1) fun x_28 =>
 binA .neq x_27 x_28 fun x_29 =>
 brA x_29 (binA .eql x_14 (I 3) fun x_30 =>
 retA x_30 h_16 Q) (lenA x_13 fun x_31 =>
 loopS (fun s_32 h_33 K_34 =>
 binA .lss (g s_32 0) x_31 fun x_35 =>
 brA x_35 (idxA 1 x_13 (g s_32 0) h_33 fun p_36 =>
 loadV p_36 h_33 fun x_37 =>
 lenA x_37 fun x_38 =>
 idxA 5 (g c_1 1) (g s_32 0) h_33 fun p_39 =>
 fldA 1 p_39 fun p_40 =>
 fldA 0 p_40 fun p_41 =>
 loadV p_41 h_33 fun x_42 =>
 lenA x_42 fun x_43 =>
 binA .neq x_38 x_43 fun x_44 =>
 brA x_44 (retA (B false) h_33 Q) (idxA 1 x_13 (g s_32 0) h_33 fun p_45 =>
 loadV p_45 h_33 fun x_46 =>
 lenA x_46 fun x_47 =>
 loopS (fun s_48 h_49 K_50 =>
 binA .lss (g s_48 0) x_47 fun x_51 =>
 brA x_51 (idxA 1 x_13 (g s_32 0) h_49 fun p_52 =>
 loadV p_52 h_49 fun x_53 =>
 idxA 1 x_53 (g s_48 0) h_49 fun p_54 =>
 loadV p_54 h_49 fun x_55 =>
 lenA x_55 fun x_56 =>
 loopS (fun s_57 h_58 K_59 =>
 binA .lss (g s_57 0) x_56 fun x_60 =>
 brA x_60 (idxA 2 x_55 (g s_57 0) h_58 fun p_61 =>
 loadG 2 p_61 h_58 fun c_62 =>
 callS prog n_flow_At [(.agg [(g c_1 0), (g c_1 1)]), (.agg [(g c_62 0), (g c_62 1)])] h_58 fun r_63 h_64 =>
 tupA r_63 0 fun x_65 =>
 tupA r_63 1 fun x_66 =>
 aggA 3 x_65 fun c_67 =>
 binA .neq x_66 (I 0) fun x_68 =>
 brA x_68 (retA (B false) h_64 Q) (idxA 1 x_17 (g c_62 0) h_64 fun p_69 =>
 loadV p_69 h_64 fun x_70 =>
 notA x_70 fun x_71 =>
 brA x_71 (retA (B false) h_64 Q) (callS prog n_vref02_Nodes [(.agg [(g c_67 0), (g c_67 1), (g c_67 2)]), (I 400)] h_64 fun r_72 h_73 =>
 binA .gtr r_72 (I 400) fun x_74 =>
 brA x_74 (retA (B false) h_73 Q) (callS prog n_vref03_Place [(.agg [(g c_1 0), (g c_1 1)]), (g c_62 0)] h_73 fun r_75 h_76 =>
 callS prog n_vref02_Of [r_75, (.agg [(g c_67 0), (g c_67 1), (g c_67 2)])] h_76 fun r_77 h_78 =>
 tupA r_77 0 fun x_79 =>
 tupA r_77 1 fun x_80 =>
 aggA 1 x_79 fun c_81 =>
 notA x_80 fun x_82 =>
 brA x_82 (retA (B false) h_78 Q) (idxA 5 (g c_1 1) (g s_32 0) h_78 fun p_83 =>
 fldA 1 p_83 fun p_84 =>
 fldA 0 p_84 fun p_85 =>
 loadV p_85 h_78 fun x_86 =>
 idxA 1 x_86 (g s_48 0) h_78 fun p_87 =>
 loadG 1 p_87 h_78 fun c_88 =>
 callS prog n_vref01_Equal [(.agg [(g c_81 0)]), (.agg [(g c_88 0)])] h_78 fun r_89 h_90 =>
 notA r_89 fun x_91 =>
 brA x_91 (retA (B false) h_90 Q) (binA .add (g s_57 0) (I 1) fun x_92 =>
 K_59 [x_92] h_90)))))) (binA .add (g s_48 0) (I 1) fun x_93 =>
 K_50 [x_93] h_58)) [(I 0)] h_49) (binA .add (g s_32 0) (I 1) fun x_94 =>
 K_34 [x_94] h_49)) [(I 0)] h_33)) (callS prog n_vlaw19_alive [] h_33 fun r_95 h_96 =>
 retA r_95 h_96 Q)) [(I 0)] h_16))))))
def c_vlaw19_FlowSorts : Cfg := ⟨tab, [], [(8, ⟨[59], [], [2, 7, 8, 10, 11, 12, 13, 14, 59, 60, 61, 62, 63, 64, 65, 66, 67, 68, 69, 70, 71, 72, 73, 74, 75, 76, 77, 78, 79, 80, 81, 82, 83, 84, 85, 86, 87, 88, 89, 90, 91, 92, 93, 94, 95, 96, 97, 98, 99, 100, 101, 102, 103, 104, 105, 106, 107, 108, 109, 110, 111, 112, 113, 114, 115, 116, 117, 118, 119, 120, 121, 122, 123, 124, 125, 126, 127, 128, 129, 130, 131, 132, 133, 134, 135, 136, 137, 138, 139, 140, 141, 142, 143, 144, 145]⟩), (13, ⟨[81], [], [2, 8, 10, 11, 12, 13, 14, 81, 82, 83, 84, 85, 86, 87, 88, 89, 90, 91, 92, 93, 94, 95, 96, 97, 98, 99, 100, 101, 102, 103, 104, 105, 106, 107, 108, 109, 110, 111, 112, 113, 114, 115, 116, 117, 118, 119, 120, 121, 122, 123, 124, 125, 126, 127, 128, 129, 130, 131, 132, 133, 134, 135, 136, 137, 138, 139, 140, 141, 142, 143, 144]⟩), (16, ⟨[92], [], [2, 10, 11, 12, 13, 14, 92, 93, 94, 95, 96, 97, 98, 99, 100, 101, 102, 103, 104, 105, 106, 107, 108, 109, 110, 111, 112, 113, 114, 115, 116, 117, 118, 119, 120, 121, 122, 123, 124, 125, 126, 127, 128, 129, 130, 131, 132, 133, 134, 135, 136, 137, 138, 139, 140, 141, 142, 143]⟩)], [(10, [0, 1, 2, 3, 4, 5, 6, 7, 8, 9, 10, 11, 12, 13]), (21, [9, 0, 1, 2, 4, 3, 5, 6, 7, 8, 10, 11]), (22, [0, 1, 2, 3, 4, 5, 6, 7, 8, 9, 10, 11, 12, 13, 14, 15, 16])], [64, 65, 68, 70, 73, 118, 120, 129, 131, 133, 136, 138, 139], [128]⟩
theorem vlaw19_FlowSorts_eq (a0 : AV) (h : Heap) (Q : AV → Heap → Prop) : abody prog c_vlaw19_FlowSorts f24 [a0] h Q = vlaw19_FlowSorts a0 h Q := by kernel_rfl
theorem vlaw19_FlowSorts_ok : fnB c_vlaw19_FlowSorts f24 = true := by kernel_rfl
theorem vlaw19_FlowSorts_call {a0 : AV} {h : Heap} {Q : AV → Heap → Prop} (hk : vlaw19_FlowSorts a0 h Q) : ACalls prog n_vlaw19_FlowSorts [a0] h Q := contract (cf := c_vlaw19_FlowSorts) tab_ok prog_mixed func24 vlaw19_FlowSorts_ok (Eq.mpr (vlaw19_FlowSorts_eq a0 h Q) hk)
end Am
