/- Short texts of functions, made by program; each with its contract's rule. -/
import Derived.Test.YtoifckjdnldlpaaZG0
set_option linter.unusedVariables false
set_option linter.unusedSimpArgs false
namespace Am
open Go Go.Proofs.Try
def vlaw19_heavy (a0 : AV) (h : Heap) (Q : AV → Heap → Prop) : Prop :=
 aggA 2 a0 fun c_1 =>
 callS prog n_vref03_Is [(.agg [(g c_1 0), (g c_1 1)])] h fun r_2 h_3 =>
 brA r_2 (callS prog n_vlaw19_small [(.agg [(g c_1 0), (g c_1 1)])] h_3 fun r_4 h_5 =>
 notA r_4 fun x_6 =>
 retA x_6 h_5 Q) (retA (B false) h_3 Q)
def c_vlaw19_heavy : Cfg := ⟨tab, [], [], [], [], []⟩
theorem vlaw19_heavy_eq (a0 : AV) (h : Heap) (Q : AV → Heap → Prop) : abody prog c_vlaw19_heavy f76 [a0] h Q = vlaw19_heavy a0 h Q := by kernel_rfl
theorem vlaw19_heavy_ok : fnB c_vlaw19_heavy f76 = true := by kernel_rfl
theorem vlaw19_heavy_call {a0 : AV} {h : Heap} {Q : AV → Heap → Prop} (hk : vlaw19_heavy a0 h Q) : ACalls prog n_vlaw19_heavy [a0] h Q := contract (cf := c_vlaw19_heavy) tab_ok prog_mixed func76 vlaw19_heavy_ok (Eq.mpr (vlaw19_heavy_eq a0 h Q) hk)
def vlaw19_small (a0 : AV) (h : Heap) (Q : AV → Heap → Prop) : Prop :=
 aggA 2 a0 fun c_1 =>
 lenA (g c_1 1) fun x_2 =>
 loopS (fun s_3 h_4 K_5 =>
 binA .lss (g s_3 1) x_2 fun x_6 =>
 brA x_6 (idxA 5 (g c_1 1) (g s_3 1) h_4 fun p_7 =>
 loadG 5 p_7 h_4 fun c_8 =>
 callS prog n_vref02_Nodes [(.agg [(g c_8 2), (g c_8 3), (g c_8 4)]), (I 400)] h_4 fun r_9 h_10 =>
 binA .add (g s_3 0) r_9 fun x_11 =>
 binA .add (g s_3 1) (I 1) fun x_12 =>
 K_5 [x_11, x_12] h_10) (binA .leq (g s_3 0) (I 150) fun x_13 =>
 retA x_13 h_4 Q)) [(I 0), (I 0)] h
def c_vlaw19_small : Cfg := ⟨tab, [], [(3, ⟨[3, 9], [], [3, 5, 9, 10, 11, 12, 13, 14, 15, 16, 17, 18]⟩)], [], [], []⟩
theorem vlaw19_small_eq (a0 : AV) (h : Heap) (Q : AV → Heap → Prop) : abody prog c_vlaw19_small f79 [a0] h Q = vlaw19_small a0 h Q := by kernel_rfl
theorem vlaw19_small_ok : fnB c_vlaw19_small f79 = true := by kernel_rfl
theorem vlaw19_small_call {a0 : AV} {h : Heap} {Q : AV → Heap → Prop} (hk : vlaw19_small a0 h Q) : ACalls prog n_vlaw19_small [a0] h Q := contract (cf := c_vlaw19_small) tab_ok prog_mixed func79 vlaw19_small_ok (Eq.mpr (vlaw19_small_eq a0 h Q) hk)
end Am
set_option linter.unusedVariables false
set_option linter.unusedSimpArgs false
namespace Am
open Go Go.Proofs.Try
end Am
set_option linter.unusedVariables false
set_option linter.unusedSimpArgs false
namespace Am
open Go Go.Proofs.Try
end Am
set_option linter.unusedVariables false
set_option linter.unusedSimpArgs false
namespace Am
open Go Go.Proofs.Try
def flow_Comes (a0 a1 a2 a3 : AV) (h : Heap) (Q : AV → Heap → Prop) : Prop :=
 aggA 2 a0 fun c_1 =>
 aggA 3 a3 fun c_2 =>
 callS prog n_scheme_Check [(.agg [(g c_1 0), (g c_1 1)])] h fun r_3 h_4 =>
 binA .neq r_3 (I 0) fun x_5 =>
 brA x_5 (retA (.tup [(B false), r_3]) h_4 Q) (binA .lss a1 (I 0) fun x_6 =>
 brA x_6 (retA (.tup [(B false), (I 2)]) h_4 Q) (lenA (g c_1 1) fun x_7 =>
 binA .geq a1 x_7 fun x_8 =>
 brA x_8 (retA (.tup [(B false), (I 2)]) h_4 Q) (binA .lss a2 (I 0) fun x_9 =>
 brA x_9 (retA (.tup [(B false), (I 2)]) h_4 Q) (idxA 5 (g c_1 1) a1 h_4 fun p_10 =>
 fldA 1 p_10 fun p_11 =>
 fldA 0 p_11 fun p_12 =>
 loadV p_12 h_4 fun x_13 =>
 lenA x_13 fun x_14 =>
 binA .geq a2 x_14 fun x_15 =>
 brA x_15 (retA (.tup [(B false), (I 2)]) h_4 Q) (callS prog n_term_Size [(.agg [(g c_2 0), (g c_2 1), (g c_2 2)])] h_4 fun r_16 h_17 =>
 tupA r_16 0 fun x_18 =>
 tupA r_16 1 fun x_19 =>
 binA .gtr x_18 (I 100000) fun x_20 =>
 brA x_20 (retA (.tup [(B false), (I 3)]) h_17 Q) (callS prog n_flow_Flow [(.agg [(g c_1 0), (g c_1 1)])] h_17 fun r_21 h_22 =>
 tupA r_21 0 fun x_23 =>
 tupA r_21 1 fun x_24 =>
 binA .neq x_24 (I 0) fun x_25 =>
 brA x_25 (retA (.tup [(B false), x_24]) h_22 Q) (idxA 1 x_23 a1 h_22 fun p_26 =>
 loadV p_26 h_22 fun x_27 =>
 idxA 1 x_27 a2 h_22 fun p_28 =>
 loadV p_28 h_22 fun x_29 =>
 lenA x_29 fun x_30 =>
 loopS (fun s_31 h_32 K_33 =>
 binA .lss (g s_31 0) x_30 fun x_34 =>
 brA x_34 (idxA 2 x_29 (g s_31 0) h_32 fun p_35 =>
 loadG 2 p_35 h_32 fun c_36 =>
 callS prog n_flow_at [(.agg [(g c_1 0), (g c_1 1)]), (.agg [(g c_36 0), (g c_36 1)])] h_32 fun r_37 h_38 =>
 tupA r_37 0 fun x_39 =>
 tupA r_37 1 fun x_40 =>
 nilA x_39 <|
 loadG 3 x_39 h_38 fun c_41 =>
 newM h_38 fun m_42 h_43 =>
 (loadG 3 x_39 h_43 fun c_47 =>
 TV.ag [(g c_47 0), (g c_47 1), (g c_47 2)] = TV.ag [(g c_41 0), (g c_41 1), (g c_41 2)]) ∧
 (TV.ag [(g c_2 0), (g c_2 1), (g c_2 2)] = TV.ag [(g c_2 0), (g c_2 1), (g c_2 2)]) ∧
 callS prog n_flow_match [(.agg [(g c_41 0), (g c_41 1), (g c_41 2)]), (.agg [(g c_2 0), (g c_2 1), (g c_2 2)]), m_42] h_43 fun r_44 h_45 =>
 brA r_44 (retA (.tup [(B true), (I 0)]) h_45 Q) (binA .add (g s_31 0) (I 1) fun x_46 =>
 K_33 [x_46] h_45)) (retA (.tup [(B false), (I 0)]) h_32 Q)) [(I 0)] h_22)))))))
def c_flow_Comes : Cfg := ⟨tab, [], [(13, ⟨[72], [], [8, 9, 16, 17, 18, 72, 73, 74, 75, 76, 77, 78, 79, 80, 81, 82, 83, 84, 85, 86, 87, 88]⟩)], [(16, [0, 1, 2, 3, 4, 9, 10, 5])], [84, 85], []⟩
theorem flow_Comes_eq (a0 a1 a2 a3 : AV) (h : Heap) (Q : AV → Heap → Prop) : abody prog c_flow_Comes f86 [a0, a1, a2, a3] h Q = flow_Comes a0 a1 a2 a3 h Q := by kernel_rfl
theorem flow_Comes_ok : fnB c_flow_Comes f86 = true := by kernel_rfl
theorem flow_Comes_call {a0 a1 a2 a3 : AV} {h : Heap} {Q : AV → Heap → Prop} (hk : flow_Comes a0 a1 a2 a3 h Q) : ACalls prog n_flow_Comes [a0, a1, a2, a3] h Q := contract (cf := c_flow_Comes) tab_ok prog_mixed func86 flow_Comes_ok (Eq.mpr (flow_Comes_eq a0 a1 a2 a3 h Q) hk)
def flow_match (a0 a1 a2 : AV) (h : Heap) (Q : AV → Heap → Prop) : Prop :=
 aggA 3 a0 fun c_1 =>
 aggA 3 a1 fun c_2 =>
 lenA (g c_2 2) fun x_3 =>
 lenA (g c_1 2) fun x_4 =>
 binA .sub x_3 x_4 fun x_5 =>
 binA .lss x_5 (I 0) fun x_6 =>
 brA x_6 (retA (B false) h Q) (binA .neq (g c_1 0) (I 0) fun x_7 =>
 brA x_7 (binA .gtr x_5 (I 0) fun x_8 =>
 brA x_8 (retA (B false) h Q) (binA .neq (g c_1 0) (g c_2 0) fun x_9 =>
 brA x_9 (retA (B false) h Q) (binA .neq (g c_1 1) (g c_2 1) fun x_10 =>
 brA x_10 (retA (B false) h Q) (binA .eql (g c_1 0) (I 0) fun x_11 =>
 brA x_11 (sl3A 3 (g c_2 2) x_5 x_5 fun x_12 =>
 oneA (g c_2 0) <|
 oneA (g c_2 1) <|
 oneA x_12 <|
 oneA (g c_1 1) <|
 lookA [(.int .i64)] true (.agg [(I 0), (I 0), .e0]) a2 (g c_1 1) h fun x_13 =>
 tupA x_13 0 fun x_15 =>
 tupA x_13 1 fun x_16 =>
 aggA 3 x_15 fun c_17 =>
 brA x_16 (callS prog n_term_Same [(.agg [(g c_17 0), (g c_17 1), (g c_17 2)]), (.agg [(g c_2 0), (g c_2 1), x_12])] h fun r_18 h_19 =>
 notA r_18 fun x_20 =>
 brA x_20 (retA (B false) h_19 Q) (oneA (g c_1 1) <|
 updA [(.int .i64)] a2 (g c_1 1) (.agg [(g c_2 0), (g c_2 1), x_12]) h_19 fun h_22 =>
 lenA (g c_1 2) fun x_23 =>
 loopS (fun s_24 h_25 K_26 =>
 binA .lss (g s_24 0) x_23 fun x_27 =>
 brA x_27 (idxA 3 (g c_1 2) (g s_24 0) h_25 fun p_28 =>
 loadG 3 p_28 h_25 fun c_29 =>
 binA .add x_5 (g s_24 0) fun x_30 =>
 idxA 3 (g c_2 2) x_30 h_25 fun p_31 =>
 loadG 3 p_31 h_25 fun c_32 =>
 callS prog n_flow_match [(.agg [(g c_29 0), (g c_29 1), (g c_29 2)]), (.agg [(g c_32 0), (g c_32 1), (g c_32 2)]), a2] h_25 fun r_33 h_34 =>
 notA r_33 fun x_35 =>
 brA x_35 (retA (B false) h_34 Q) (binA .add (g s_24 0) (I 1) fun x_36 =>
 K_26 [x_36] h_34)) (retA (B true) h_25 Q)) [(I 0)] h_22)) (oneA (g c_1 1) <|
 updA [(.int .i64)] a2 (g c_1 1) (.agg [(g c_2 0), (g c_2 1), x_12]) h fun h_38 =>
 lenA (g c_1 2) fun x_39 =>
 loopS (fun s_40 h_41 K_42 =>
 binA .lss (g s_40 0) x_39 fun x_43 =>
 brA x_43 (idxA 3 (g c_1 2) (g s_40 0) h_41 fun p_44 =>
 loadG 3 p_44 h_41 fun c_45 =>
 binA .add x_5 (g s_40 0) fun x_46 =>
 idxA 3 (g c_2 2) x_46 h_41 fun p_47 =>
 loadG 3 p_47 h_41 fun c_48 =>
 callS prog n_flow_match [(.agg [(g c_45 0), (g c_45 1), (g c_45 2)]), (.agg [(g c_48 0), (g c_48 1), (g c_48 2)]), a2] h_41 fun r_49 h_50 =>
 notA r_49 fun x_51 =>
 brA x_51 (retA (B false) h_50 Q) (binA .add (g s_40 0) (I 1) fun x_52 =>
 K_42 [x_52] h_50)) (retA (B true) h_41 Q)) [(I 0)] h_38)) (lenA (g c_1 2) fun x_53 =>
 loopS (fun s_54 h_55 K_56 =>
 binA .lss (g s_54 0) x_53 fun x_57 =>
 brA x_57 (idxA 3 (g c_1 2) (g s_54 0) h_55 fun p_58 =>
 loadG 3 p_58 h_55 fun c_59 =>
 binA .add x_5 (g s_54 0) fun x_60 =>
 idxA 3 (g c_2 2) x_60 h_55 fun p_61 =>
 loadG 3 p_61 h_55 fun c_62 =>
 callS prog n_flow_match [(.agg [(g c_59 0), (g c_59 1), (g c_59 2)]), (.agg [(g c_62 0), (g c_62 1), (g c_62 2)]), a2] h_55 fun r_63 h_64 =>
 notA r_63 fun x_65 =>
 brA x_65 (retA (B false) h_64 Q) (binA .add (g s_54 0) (I 1) fun x_66 =>
 K_56 [x_66] h_64)) (retA (B true) h_55 Q)) [(I 0)] h))))) (binA .eql (g c_1 0) (I 0) fun x_67 =>
 brA x_67 (sl3A 3 (g c_2 2) x_5 x_5 fun x_68 =>
 oneA (g c_2 0) <|
 oneA (g c_2 1) <|
 oneA x_68 <|
 oneA (g c_1 1) <|
 lookA [(.int .i64)] true (.agg [(I 0), (I 0), .e0]) a2 (g c_1 1) h fun x_69 =>
 tupA x_69 0 fun x_71 =>
 tupA x_69 1 fun x_72 =>
 aggA 3 x_71 fun c_73 =>
 brA x_72 (callS prog n_term_Same [(.agg [(g c_73 0), (g c_73 1), (g c_73 2)]), (.agg [(g c_2 0), (g c_2 1), x_68])] h fun r_74 h_75 =>
 notA r_74 fun x_76 =>
 brA x_76 (retA (B false) h_75 Q) (oneA (g c_1 1) <|
 updA [(.int .i64)] a2 (g c_1 1) (.agg [(g c_2 0), (g c_2 1), x_68]) h_75 fun h_78 =>
 lenA (g c_1 2) fun x_79 =>
 loopS (fun s_80 h_81 K_82 =>
 binA .lss (g s_80 0) x_79 fun x_83 =>
 brA x_83 (idxA 3 (g c_1 2) (g s_80 0) h_81 fun p_84 =>
 loadG 3 p_84 h_81 fun c_85 =>
 binA .add x_5 (g s_80 0) fun x_86 =>
 idxA 3 (g c_2 2) x_86 h_81 fun p_87 =>
 loadG 3 p_87 h_81 fun c_88 =>
 callS prog n_flow_match [(.agg [(g c_85 0), (g c_85 1), (g c_85 2)]), (.agg [(g c_88 0), (g c_88 1), (g c_88 2)]), a2] h_81 fun r_89 h_90 =>
 notA r_89 fun x_91 =>
 brA x_91 (retA (B false) h_90 Q) (binA .add (g s_80 0) (I 1) fun x_92 =>
 K_82 [x_92] h_90)) (retA (B true) h_81 Q)) [(I 0)] h_78)) (oneA (g c_1 1) <|
 updA [(.int .i64)] a2 (g c_1 1) (.agg [(g c_2 0), (g c_2 1), x_68]) h fun h_94 =>
 lenA (g c_1 2) fun x_95 =>
 loopS (fun s_96 h_97 K_98 =>
 binA .lss (g s_96 0) x_95 fun x_99 =>
 brA x_99 (idxA 3 (g c_1 2) (g s_96 0) h_97 fun p_100 =>
 loadG 3 p_100 h_97 fun c_101 =>
 binA .add x_5 (g s_96 0) fun x_102 =>
 idxA 3 (g c_2 2) x_102 h_97 fun p_103 =>
 loadG 3 p_103 h_97 fun c_104 =>
 callS prog n_flow_match [(.agg [(g c_101 0), (g c_101 1), (g c_101 2)]), (.agg [(g c_104 0), (g c_104 1), (g c_104 2)]), a2] h_97 fun r_105 h_106 =>
 notA r_105 fun x_107 =>
 brA x_107 (retA (B false) h_106 Q) (binA .add (g s_96 0) (I 1) fun x_108 =>
 K_98 [x_108] h_106)) (retA (B true) h_97 Q)) [(I 0)] h_94)) (lenA (g c_1 2) fun x_109 =>
 loopS (fun s_110 h_111 K_112 =>
 binA .lss (g s_110 0) x_109 fun x_113 =>
 brA x_113 (idxA 3 (g c_1 2) (g s_110 0) h_111 fun p_114 =>
 loadG 3 p_114 h_111 fun c_115 =>
 binA .add x_5 (g s_110 0) fun x_116 =>
 idxA 3 (g c_2 2) x_116 h_111 fun p_117 =>
 loadG 3 p_117 h_111 fun c_118 =>
 callS prog n_flow_match [(.agg [(g c_115 0), (g c_115 1), (g c_115 2)]), (.agg [(g c_118 0), (g c_118 1), (g c_118 2)]), a2] h_111 fun r_119 h_120 =>
 notA r_119 fun x_121 =>
 brA x_121 (retA (B false) h_120 Q) (binA .add (g s_110 0) (I 1) fun x_122 =>
 K_112 [x_122] h_120)) (retA (B true) h_111 Q)) [(I 0)] h)))
def c_flow_match : Cfg := ⟨tab, [], [(11, ⟨[79], [], [6, 11, 12, 79, 80, 81, 82, 83, 84, 85, 86, 87, 88, 89, 90, 91, 92, 93, 94, 95]⟩)], [(5, [10, 0, 1, 2, 3, 4, 5, 6, 7, 8, 9, 11]), (13, [0, 1, 2, 3, 4, 5, 6, 7, 8, 9, 10])], [49, 51, 53, 84, 86, 90, 91], []⟩
theorem flow_match_eq (a0 a1 a2 : AV) (h : Heap) (Q : AV → Heap → Prop) : abody prog c_flow_match f141 [a0, a1, a2] h Q = flow_match a0 a1 a2 h Q := by kernel_rfl
theorem flow_match_ok : fnB c_flow_match f141 = true := by kernel_rfl
theorem flow_match_call {a0 a1 a2 : AV} {h : Heap} {Q : AV → Heap → Prop} (hk : flow_match a0 a1 a2 h Q) : ACalls prog n_flow_match [a0, a1, a2] h Q := contract (cf := c_flow_match) tab_ok prog_mixed func141 flow_match_ok (Eq.mpr (flow_match_eq a0 a1 a2 h Q) hk)
end Am
set_option linter.unusedVariables false
set_option linter.unusedSimpArgs false
namespace Am
open Go Go.Proofs.Try
def vlaw19_FlowRuns (a0 : AV) (h : Heap) (Q : AV → Heap → Prop) : Prop :=
 aggA 2 a0 fun c_1 =>
 callS prog n_vlaw19_heavy [(.agg [(g c_1 0), (g c_1 1)])] h fun r_2 h_3 =>
 brA r_2 (callS prog n_vlaw19_alive [] h_3 fun r_4 h_5 =>
 retA r_4 h_5 Q) (callS prog n_vref03_Is [(.agg [(g c_1 0), (g c_1 1)])] h_3 fun r_6 h_7 =>
 notA r_6 fun x_8 =>
 brA x_8 (callS prog n_vlaw19_alive [] h_7 fun r_9 h_10 =>
 retA r_9 h_10 Q) (callS prog n_flow_Reached [(.agg [(g c_1 0), (g c_1 1)])] h_7 fun r_11 h_12 =>
 tupA r_11 0 fun x_13 =>
 tupA r_11 1 fun x_14 =>
 binA .neq x_14 (I 0) fun x_15 =>
 brA x_15 (retA (B false) h_12 Q) (lenA x_13 fun x_16 =>
 lenA (g c_1 1) fun x_17 =>
 binA .neq x_16 x_17 fun x_18 =>
 brA x_18 (retA (B false) h_12 Q) (idxA 1 x_13 (I 0) h_12 fun p_19 =>
 loadV p_19 h_12 fun x_20 =>
 notA x_20 fun x_21 =>
 brA x_21 (retA (B false) h_12 Q) (newA 1 [(I 0)] h_12 fun p_22 h_23 =>
 oneA (I 60) <|
 storeG p_22 [(I 60)] h_23 fun h_24 =>
 oneA (I 1) <|
 callS prog n_vlaw19_runs [(.agg [(g c_1 0), (g c_1 1)]), x_13, (.agg [(I 1), (I 0), .e0]), (I 8), p_22] h_24 fun r_25 h_26 =>
 brA r_25 (callS prog n_vlaw19_alive [] h_26 fun r_27 h_28 =>
 retA r_27 h_28 Q) (retA (B false) h_26 Q))))))
def c_vlaw19_FlowRuns : Cfg := ⟨tab, [5], [], [], [], []⟩
theorem vlaw19_FlowRuns_eq (a0 : AV) (h : Heap) (Q : AV → Heap → Prop) : abody prog c_vlaw19_FlowRuns f26 [a0] h Q = vlaw19_FlowRuns a0 h Q := by kernel_rfl
theorem vlaw19_FlowRuns_ok : fnB c_vlaw19_FlowRuns f26 = true := by kernel_rfl
theorem vlaw19_FlowRuns_call {a0 : AV} {h : Heap} {Q : AV → Heap → Prop} (hk : vlaw19_FlowRuns a0 h Q) : ACalls prog n_vlaw19_FlowRuns [a0] h Q := contract (cf := c_vlaw19_FlowRuns) tab_ok prog_mixed func26 vlaw19_FlowRuns_ok (Eq.mpr (vlaw19_FlowRuns_eq a0 h Q) hk)
def vlaw19_runs (a0 a1 a2 a3 a4 : AV) (h : Heap) (Q : AV → Heap → Prop) : Prop :=
 aggA 2 a0 fun c_1 =>
 aggA 3 a2 fun c_2 =>
 loopS (fun s_3 h_4 K_5 =>
 binA .eql (g s_3 0) (I 1) fun x_6 =>
 brA x_6 (nilA a4 <|
 loadV a4 h_4 fun x_7 =>
 binA .sub x_7 (I 1) fun x_8 =>
 nilA a4 <|
 oneA x_8 <|
 storeG a4 [x_8] h_4 fun h_9 =>
 nilA a4 <|
 loadV a4 h_9 fun x_10 =>
 binA .lss x_10 (I 0) fun x_11 =>
 brA x_11 (retA (B true) h_9 Q) (callS prog n_vref02_Nodes [(.agg [(g s_3 0), (g s_3 1), (g s_3 2)]), (I 400)] h_9 fun r_12 h_13 =>
 binA .gtr r_12 (I 400) fun x_14 =>
 brA x_14 (retA (B true) h_13 Q) (idxA 1 a1 (g s_3 1) h_13 fun p_15 =>
 loadV p_15 h_13 fun x_16 =>
 notA x_16 fun x_17 =>
 brA x_17 (retA (B false) h_13 Q) (lenA (g s_3 2) fun x_18 =>
 loopS (fun s_19 h_20 K_21 =>
 binA .lss (g s_19 0) x_18 fun x_22 =>
 brA x_22 (idxA 3 (g s_3 2) (g s_19 0) h_20 fun p_23 =>
 loadG 3 p_23 h_20 fun c_24 =>
 callS prog n_flow_Comes [(.agg [(g c_1 0), (g c_1 1)]), (g s_3 1), (g s_19 0), (.agg [(g c_24 0), (g c_24 1), (g c_24 2)])] h_20 fun r_25 h_26 =>
 tupA r_25 0 fun x_27 =>
 tupA r_25 1 fun x_28 =>
 binA .neq x_28 (I 0) fun x_29 =>
 brA x_29 (retA (B false) h_26 Q) (notA x_27 fun x_30 =>
 brA x_30 (retA (B false) h_26 Q) (binA .add (g s_19 0) (I 1) fun x_31 =>
 K_21 [x_31] h_26))) (callS prog n_vref05_Next [(.agg [(g c_1 0), (g c_1 1)]), (.agg [(g s_3 0), (g s_3 1), (g s_3 2)])] h_20 fun r_32 h_33 =>
 tupA r_32 0 fun x_34 =>
 tupA r_32 1 fun x_35 =>
 tupA r_32 2 fun x_36 =>
 aggA 3 x_34 fun c_37 =>
 binA .neq x_36 (I 0) fun x_38 =>
 brA x_38 (retA (B true) h_33 Q) (K_5 [(g c_37 0), (g c_37 1), (g c_37 2)] h_33))) [(I 0)] h_13)))) (lenA (g s_3 2) fun x_39 =>
 loopS (fun s_40 h_41 K_42 =>
 binA .lss (g s_40 0) x_39 fun x_43 =>
 brA x_43 (idxA 3 (g s_3 2) (g s_40 0) h_41 fun p_44 =>
 loadG 3 p_44 h_41 fun c_45 =>
 binA .gtr a3 (I 0) fun x_46 =>
 brA x_46 (binA .sub a3 (I 1) fun x_47 =>
 callS prog n_vlaw19_runs [(.agg [(g c_1 0), (g c_1 1)]), a1, (.agg [(g c_45 0), (g c_45 1), (g c_45 2)]), x_47, a4] h_41 fun r_48 h_49 =>
 notA r_48 fun x_50 =>
 brA x_50 (retA (B false) h_49 Q) (binA .add (g s_40 0) (I 1) fun x_51 =>
 K_42 [x_51] h_49)) (binA .add (g s_40 0) (I 1) fun x_52 =>
 K_42 [x_52] h_41)) (retA (B true) h_41 Q)) [(I 0)] h_4)) [(g c_2 0), (g c_2 1), (g c_2 2)] h
def c_vlaw19_runs : Cfg := ⟨tab, [], [(1, ⟨[], [7], [10, 11, 12, 13, 14, 15, 16, 17, 20, 21, 22, 23, 24, 25, 26, 27, 28, 29, 30, 31, 32, 33, 34, 35, 36, 37, 38, 39, 40, 41, 42, 43, 44, 45, 46, 47, 48, 49, 50, 51, 52, 53, 54, 55, 56, 57, 58, 59, 60, 61, 62, 63, 64, 65, 66, 67, 68, 69, 70, 71, 72, 73, 74, 75, 76, 77]⟩), (8, ⟨[47], [], [10, 11, 12, 13, 14, 47, 48, 49, 50, 51, 52, 53, 54, 55, 56, 57, 58, 59, 60, 61, 62, 63, 64, 65, 66, 67]⟩), (19, ⟨[81], [], [10, 19, 81, 82, 83, 84, 85, 86, 87, 88, 89, 90, 91, 92, 93, 94, 95, 96, 97]⟩)], [], [], []⟩
theorem vlaw19_runs_eq (a0 a1 a2 a3 a4 : AV) (h : Heap) (Q : AV → Heap → Prop) : abody prog c_vlaw19_runs f88 [a0, a1, a2, a3, a4] h Q = vlaw19_runs a0 a1 a2 a3 a4 h Q := by kernel_rfl
theorem vlaw19_runs_ok : fnB c_vlaw19_runs f88 = true := by kernel_rfl
theorem vlaw19_runs_call {a0 a1 a2 a3 a4 : AV} {h : Heap} {Q : AV → Heap → Prop} (hk : vlaw19_runs a0 a1 a2 a3 a4 h Q) : ACalls prog n_vlaw19_runs [a0, a1, a2, a3, a4] h Q := contract (cf := c_vlaw19_runs) tab_ok prog_mixed func88 vlaw19_runs_ok (Eq.mpr (vlaw19_runs_eq a0 a1 a2 a3 a4 h Q) hk)
def vref05_Next (a0 a1 : AV) (h : Heap) (Q : AV → Heap → Prop) : Prop :=
 aggA 2 a0 fun c_1 =>
 aggA 3 a1 fun c_2 =>
 binA .neq (g c_2 0) (I 1) fun x_3 =>
 brA x_3 (callS prog n_vref02_Copy [(.agg [(g c_2 0), (g c_2 1), (g c_2 2)])] h fun r_4 h_5 =>
 aggA 3 r_4 fun c_6 =>
 retA (.tup [(.agg [(g c_6 0), (g c_6 1), (g c_6 2)]), (B false), (I 0)]) h_5 Q) (idxA 5 (g c_1 1) (g c_2 1) h fun p_7 =>
 fldA 2 p_7 fun p_8 =>
 loadG 3 p_8 h fun c_9 =>
 callS prog n_vref02_Subst [(.agg [(g c_9 0), (g c_9 1), (g c_9 2)]), (g c_2 2)] h fun r_10 h_11 =>
 tupA r_10 0 fun x_12 =>
 tupA r_10 1 fun x_13 =>
 aggA 3 x_12 fun c_14 =>
 binA .eql x_13 (I 0) fun x_15 =>
 retA (.tup [(.agg [(g c_14 0), (g c_14 1), (g c_14 2)]), x_15, x_13]) h_11 Q)
def c_vref05_Next : Cfg := ⟨tab, [], [], [(3, [0, 1, 2, 3, 4, 5, 6, 7, 8, 9, 10, 11, 12, 13, 14])], [14, 16, 17, 19, 21], []⟩
theorem vref05_Next_eq (a0 a1 : AV) (h : Heap) (Q : AV → Heap → Prop) : abody prog c_vref05_Next f143 [a0, a1] h Q = vref05_Next a0 a1 h Q := by kernel_rfl
theorem vref05_Next_ok : fnB c_vref05_Next f143 = true := by kernel_rfl
theorem vref05_Next_call {a0 a1 : AV} {h : Heap} {Q : AV → Heap → Prop} (hk : vref05_Next a0 a1 h Q) : ACalls prog n_vref05_Next [a0, a1] h Q := contract (cf := c_vref05_Next) tab_ok prog_mixed func143 vref05_Next_ok (Eq.mpr (vref05_Next_eq a0 a1 h Q) hk)
end Am
