/- Short texts of functions, made by program; each with its contract's rule. -/
import Derived.Test.YtoifckjdnldlpaaGreatZG0
set_option linter.unusedVariables false
set_option linter.unusedSimpArgs false
namespace Am
open Go Go.Proofs.Tryz
def flow_nodes (a0 : AV) (h : Heap) (Q : AV → Heap → Prop) : Prop :=
 newA 1 [.e0] h fun p_1 h_2 =>
 newA 1 [(.val .nilFunc)] h_2 fun p_3 h_4 =>
 oneA (.fn 154 [p_1, p_3]) <|
 storeG p_3 [(.fn 154 [p_1, p_3])] h_4 fun h_5 =>
 loadV p_3 h_5 fun x_6 =>
 callV prog x_6 [a0] h_5 fun r_7 h_8 =>
 loadV p_1 h_8 fun x_9 =>
 retA x_9 h_8 Q
def c_flow_nodes : Cfg := ⟨tab, [3, 4], [], [], [], []⟩
theorem flow_nodes_eq (a0 : AV) (h : Heap) (Q : AV → Heap → Prop) : abody prog c_flow_nodes f111 [a0] h Q = flow_nodes a0 h Q := by kernel_rfl
theorem flow_nodes_ok : fnB c_flow_nodes f111 = true := by kernel_rfl
theorem flow_nodes_call {a0 : AV} {h : Heap} {Q : AV → Heap → Prop} (hk : flow_nodes a0 h Q) : ACalls prog n_flow_nodes [a0] h Q := contract (cf := c_flow_nodes) tab_ok prog_mixed func111 flow_nodes_ok (Eq.mpr (flow_nodes_eq a0 h Q) hk)
def flow_nodes_1 (a0 a1 a2 : AV) (h : Heap) (Q : AV → Heap → Prop) : Prop :=
 loadV a1 h fun x_1 =>
 lenA x_1 fun x_2 =>
 loadV a1 h fun x_3 =>
 oneA a0 <|
 appA 2 32 x_3 (.rs 2 [[a0, .e0]]) h fun x_4 h_5 =>
 oneA x_4 <|
 storeG a1 [x_4] h_5 fun h_6 =>
 nilA a0 <|
 fldA 2 a0 fun p_7 =>
 loadV p_7 h_6 fun x_8 =>
 lenA x_8 fun x_9 =>
 loopS (fun s_10 h_11 K_12 =>
 binA .lss (g s_10 0) x_9 fun x_13 =>
 brA x_13 (loadV a1 h_11 fun x_14 =>
 loadV a1 h_11 fun x_15 =>
 idxA 2 x_15 x_2 h_11 fun p_16 =>
 fldA 1 p_16 fun p_17 =>
 loadV p_17 h_11 fun x_18 =>
 loadV a1 h_11 fun x_19 =>
 lenA x_19 fun x_20 =>
 oneA x_20 <|
 appA 1 8 x_18 (.rs 1 [[x_20]]) h_11 fun x_21 h_22 =>
 (loadV a1 h_22 fun x_33 =>
 TV.av x_33 = TV.av x_14) ∧
 idxA 2 x_14 x_2 h_22 fun p_23 =>
 fldA 1 p_23 fun p_24 =>
 oneA x_21 <|
 storeG p_24 [x_21] h_22 fun h_25 =>
 loadV a2 h_25 fun x_26 =>
 nilA a0 <|
 fldA 2 a0 fun p_27 =>
 loadV p_27 h_25 fun x_28 =>
 idxA 3 x_28 (g s_10 0) h_25 fun p_29 =>
 callV prog x_26 [p_29] h_25 fun r_30 h_31 =>
 binA .add (g s_10 0) (I 1) fun x_32 =>
 K_12 [x_32] h_31) (retA (.tup []) h_11 Q)) [(I 0)] h_6
def c_flow_nodes_1 : Cfg := ⟨tab, [], [(3, ⟨[18], [], [5, 18, 19, 20, 21, 22, 23, 24, 25, 26, 27, 28, 29, 30, 31, 32, 33, 34, 35, 36, 37, 38, 39, 40, 41, 42]⟩)], [(5, [0, 1, 2, 3, 4, 5, 6, 7, 8, 9, 10, 15, 11, 12, 13]), (6, [0, 1, 2, 3, 4, 5, 6, 7])], [21, 23, 25, 27, 28, 32, 34, 38, 40], []⟩
theorem flow_nodes_1_eq (a0 a1 a2 : AV) (h : Heap) (Q : AV → Heap → Prop) : abody prog c_flow_nodes_1 f154 [a0, a1, a2] h Q = flow_nodes_1 a0 a1 a2 h Q := by kernel_rfl
theorem flow_nodes_1_ok : fnB c_flow_nodes_1 f154 = true := by kernel_rfl
theorem flow_nodes_1_call {a0 a1 a2 : AV} {h : Heap} {Q : AV → Heap → Prop} (hk : flow_nodes_1 a0 a1 a2 h Q) : ACalls prog n_flow_nodes_1 [a0, a1, a2] h Q := contract (cf := c_flow_nodes_1) tab_ok prog_mixed func154 flow_nodes_1_ok (Eq.mpr (flow_nodes_1_eq a0 a1 a2 h Q) hk)
def flow_analysis_begin (a0 a1 : AV) (h : Heap) (Q : AV → Heap → Prop) : Prop :=
 oneA a0 <|
 newA 1 [a0] h fun p_1 h_2 =>
 aggA 2 a1 fun c_3 =>
 newA 2 [(g c_3 0), (g c_3 1)] h_2 fun p_4 h_5 =>
 loadV p_1 h_5 fun x_6 =>
 nilA x_6 <|
 fldA 2 x_6 fun p_7 =>
 loadV p_7 h_5 fun x_8 =>
 fldA 0 p_4 fun p_9 =>
 loadV p_9 h_5 fun x_10 =>
 idxA 1 x_8 x_10 h_5 fun p_11 =>
 loadV p_11 h_5 fun x_12 =>
 fldA 1 p_4 fun p_13 =>
 loadV p_13 h_5 fun x_14 =>
 idxA 2 x_12 x_14 h_5 fun p_15 =>
 fldA 0 p_15 fun p_16 =>
 loadV p_16 h_5 fun x_17 =>
 newA 1 [(.val (.pointer none))] h_5 fun p_18 h_19 =>
 (loadV p_1 h_19 fun x_70 =>
 TV.av x_70 = TV.av x_6) ∧
 (loadV p_7 h_19 fun x_69 =>
 TV.av x_69 = TV.av x_8) ∧
 (loadV p_9 h_19 fun x_68 =>
 TV.av x_68 = TV.av x_10) ∧
 (idxA 1 x_8 x_10 h_19 fun p_67 =>
 TV.av p_67 = TV.av p_11) ∧
 (loadV p_11 h_19 fun x_66 =>
 TV.av x_66 = TV.av x_12) ∧
 (loadV p_13 h_19 fun x_65 =>
 TV.av x_65 = TV.av x_14) ∧
 (idxA 2 x_12 x_14 h_19 fun p_64 =>
 TV.av p_64 = TV.av p_15) ∧
 (loadV p_16 h_19 fun x_63 =>
 TV.av x_63 = TV.av x_17) ∧
 (oneA x_17 <|
 storeG p_18 [x_17] h_19 fun h_20 =>
 loadV p_1 h_20 fun x_21 =>
 nilA x_21 <|
 fldA 4 x_21 fun p_22 =>
 loadV p_22 h_20 fun x_23 =>
 loadG 2 p_4 h_20 fun c_24 =>
 newM h_20 fun m_25 h_26 =>
 (loadV p_1 h_26 fun x_62 =>
 TV.av x_62 = TV.av x_21) ∧
 (loadV p_22 h_26 fun x_61 =>
 TV.av x_61 = TV.av x_23) ∧
 (loadG 2 p_4 h_26 fun c_60 =>
 TV.ag [(g c_60 0), (g c_60 1)] = TV.ag [(g c_24 0), (g c_24 1)]) ∧
 (oneA m_25 <|
 updA [(.int .i64), (.int .i64)] x_23 (.agg [(g c_24 0), (g c_24 1)]) m_25 h_26 fun h_28 =>
 loadV p_18 h_28 fun x_29 =>
 nilA x_29 <|
 fldA 0 x_29 fun p_30 =>
 loadV p_30 h_28 fun x_31 =>
 binA .eql x_31 (I 1) fun x_32 =>
 brA x_32 (loadV p_1 h_28 fun x_33 =>
 loadV p_1 h_28 fun x_34 =>
 nilA x_34 <|
 fldA 8 x_34 fun p_35 =>
 loadV p_35 h_28 fun x_36 =>
 oneA (.fn 155 [p_1, p_4, p_18]) <|
 appA 1 8 x_36 (.rs 1 [[(.fn 155 [p_1, p_4, p_18])]]) h_28 fun x_37 h_38 =>
 (loadV p_1 h_38 fun x_41 =>
 TV.av x_41 = TV.av x_33) ∧
 (nilA x_33 <|
 fldA 8 x_33 fun p_39 =>
 oneA x_37 <|
 storeG p_39 [x_37] h_38 fun h_40 =>
 retA (.tup []) h_40 Q)) (binA .eql x_31 (I 0) fun x_42 =>
 brA x_42 (fldA 0 p_4 fun p_43 =>
 loadV p_43 h_28 fun x_44 =>
 loadV p_18 h_28 fun x_45 =>
 nilA x_45 <|
 fldA 1 x_45 fun p_46 =>
 loadV p_46 h_28 fun x_47 =>
 oneA x_44 <|
 oneA x_47 <|
 loadV p_1 h_28 fun x_48 =>
 nilA x_48 <|
 fldA 5 x_48 fun p_49 =>
 loadV p_49 h_28 fun x_50 =>
 loadG 2 p_4 h_28 fun c_51 =>
 entA [(.int .i64), (.int .i64)] .e0 x_50 (.agg [x_44, x_47]) h_28 fun x_52 h_53 =>
 tupA x_52 0 fun x_54 =>
 tupA x_52 1 fun x_55 =>
 appA 2 16 x_54 (.rs 2 [[(g c_51 0), (g c_51 1)]]) h_53 fun x_56 h_57 =>
 oneA x_56 <|
 entS x_50 x_55 x_56 h_57 fun h_59 =>
 retA (.tup []) h_59 Q) (retA (.tup []) h_28 Q))))
def c_flow_analysis_begin : Cfg := ⟨tab, [2, 3, 4], [], [(1, [0, 1, 2, 3, 4, 5, 6, 7, 8, 9, 10, 11, 12, 13, 16, 19, 21, 22, 23, 25, 26, 28, 14]), (2, [0, 1, 2, 3, 4, 5, 8, 11, 12, 6]), (5, [0, 1, 2, 3, 4, 5, 6, 7, 12, 8, 9, 10]), (7, [7, 0, 1, 2, 3, 4, 5, 6, 8]), (8, [0, 1, 2, 3, 4, 5, 6, 7, 8, 10, 9, 11])], [6, 9, 11, 12, 13, 15, 16, 18, 19, 22, 23, 31, 32, 35, 44, 45, 48, 50, 53, 54, 56], []⟩
theorem flow_analysis_begin_eq (a0 a1 : AV) (h : Heap) (Q : AV → Heap → Prop) : abody prog c_flow_analysis_begin f112 [a0, a1] h Q = flow_analysis_begin a0 a1 h Q := by kernel_rfl
theorem flow_analysis_begin_ok : fnB c_flow_analysis_begin f112 = true := by kernel_rfl
theorem flow_analysis_begin_call {a0 a1 : AV} {h : Heap} {Q : AV → Heap → Prop} (hk : flow_analysis_begin a0 a1 h Q) : ACalls prog n_flow_analysis_begin [a0, a1] h Q := contract (cf := c_flow_analysis_begin) tab_ok prog_mixed func112 flow_analysis_begin_ok (Eq.mpr (flow_analysis_begin_eq a0 a1 h Q) hk)
def flow_analysis_begin_1 (a0 a1 a2 : AV) (h : Heap) (Q : AV → Heap → Prop) : Prop :=
 loadV a0 h fun x_1 =>
 loadG 2 a1 h fun c_2 =>
 loadV a2 h fun x_3 =>
 nilA x_3 <|
 fldA 1 x_3 fun p_4 =>
 loadV p_4 h fun x_5 =>
 oneA x_5 <|
 oneA (I 0) <|
 callS prog n_flow_analysis_add [x_1, (.agg [(g c_2 0), (g c_2 1)]), (.agg [x_5, (I 0)])] h fun r_6 h_7 =>
 retA (.tup []) h_7 Q
def c_flow_analysis_begin_1 : Cfg := ⟨tab, [], [], [(0, [0, 1, 2, 3, 4, 5, 6, 7])], [3, 4, 5, 8], []⟩
theorem flow_analysis_begin_1_eq (a0 a1 a2 : AV) (h : Heap) (Q : AV → Heap → Prop) : abody prog c_flow_analysis_begin_1 f155 [a0, a1, a2] h Q = flow_analysis_begin_1 a0 a1 a2 h Q := by kernel_rfl
theorem flow_analysis_begin_1_ok : fnB c_flow_analysis_begin_1 f155 = true := by kernel_rfl
theorem flow_analysis_begin_1_call {a0 a1 a2 : AV} {h : Heap} {Q : AV → Heap → Prop} (hk : flow_analysis_begin_1 a0 a1 a2 h Q) : ACalls prog n_flow_analysis_begin_1 [a0, a1, a2] h Q := contract (cf := c_flow_analysis_begin_1) tab_ok prog_mixed func155 flow_analysis_begin_1_ok (Eq.mpr (flow_analysis_begin_1_eq a0 a1 a2 h Q) hk)
def flow_analysis_add (a0 a1 a2 : AV) (h : Heap) (Q : AV → Heap → Prop) : Prop :=
 oneA a0 <|
 newA 1 [a0] h fun p_1 h_2 =>
 aggA 2 a1 fun c_3 =>
 aggA 2 a2 fun c_4 =>
 newA 2 [(g c_4 0), (g c_4 1)] h_2 fun p_5 h_6 =>
 loadV p_1 h_6 fun x_7 =>
 nilA x_7 <|
 fldA 4 x_7 fun p_8 =>
 loadV p_8 h_6 fun x_9 =>
 loadG 2 p_5 h_6 fun c_10 =>
 lookA [(.int .i64), (.int .i64)] false (.val (.map none)) x_9 (.agg [(g c_3 0), (g c_3 1)]) h_6 fun x_11 =>
 (loadG 2 p_5 h_6 fun c_183 =>
 TV.ag [(g c_183 0), (g c_183 1)] = TV.ag [(g c_10 0), (g c_10 1)]) ∧
 lookA [(.int .i64), (.int .i64)] false (B false) x_11 (.agg [(g c_10 0), (g c_10 1)]) h_6 fun x_13 =>
 brA x_13 (retA (.tup []) h_6 Q) (loadV p_1 h_6 fun x_15 =>
 nilA x_15 <|
 fldA 4 x_15 fun p_16 =>
 loadV p_16 h_6 fun x_17 =>
 loadG 2 p_5 h_6 fun c_18 =>
 lookA [(.int .i64), (.int .i64)] false (.val (.map none)) x_17 (.agg [(g c_3 0), (g c_3 1)]) h_6 fun x_19 =>
 (loadG 2 p_5 h_6 fun c_182 =>
 TV.ag [(g c_182 0), (g c_182 1)] = TV.ag [(g c_18 0), (g c_18 1)]) ∧
 updA [(.int .i64), (.int .i64)] x_19 (.agg [(g c_18 0), (g c_18 1)]) (B true) h_6 fun h_22 =>
 loadV p_1 h_22 fun x_23 =>
 nilA x_23 <|
 fldA 7 x_23 fun p_24 =>
 loadV p_24 h_22 fun x_25 =>
 idxA 1 x_25 (g c_3 0) h_22 fun p_26 =>
 loadV p_26 h_22 fun x_27 =>
 brA x_27 (loadV p_1 h_22 fun x_28 =>
 nilA x_28 <|
 fldA 2 x_28 fun p_29 =>
 loadV p_29 h_22 fun x_30 =>
 idxA 1 x_30 (g c_3 0) h_22 fun p_31 =>
 loadV p_31 h_22 fun x_32 =>
 idxA 2 x_32 (g c_3 1) h_22 fun p_33 =>
 fldA 1 p_33 fun p_34 =>
 loadV p_34 h_22 fun x_35 =>
 lenA x_35 fun x_36 =>
 loopS (fun s_37 h_38 K_39 =>
 binA .lss (g s_37 0) x_36 fun x_40 =>
 brA x_40 (idxA 1 x_35 (g s_37 0) h_38 fun p_41 =>
 loadV p_41 h_38 fun x_42 =>
 fldA 1 p_5 fun p_43 =>
 loadV p_43 h_38 fun x_44 =>
 binA .add x_44 (g s_37 0) fun x_45 =>
 loadV p_1 h_38 fun x_46 =>
 nilA x_46 <|
 fldA 3 x_46 fun p_47 =>
 loadV p_47 h_38 fun x_48 =>
 fldA 0 p_5 fun p_49 =>
 loadV p_49 h_38 fun x_50 =>
 idxA 1 x_48 x_50 h_38 fun p_51 =>
 loadV p_51 h_38 fun x_52 =>
 lenA x_52 fun x_53 =>
 binA .lss x_45 x_53 fun x_54 =>
 brA x_54 (loadV p_1 h_38 fun x_55 =>
 fldA 0 p_5 fun p_56 =>
 loadV p_56 h_38 fun x_57 =>
 oneA (g c_3 0) <|
 oneA x_42 <|
 callS prog n_flow_analysis_come [x_55, x_57, x_45, (.agg [(g c_3 0), x_42])] h_38 fun r_58 h_59 =>
 binA .add (g s_37 0) (I 1) fun x_60 =>
 K_39 [x_60] h_59) (binA .add (g s_37 0) (I 1) fun x_61 =>
 K_39 [x_61] h_38)) (fldA 1 p_5 fun p_62 =>
 loadV p_62 h_38 fun x_63 =>
 loadV p_1 h_38 fun x_64 =>
 nilA x_64 <|
 fldA 2 x_64 fun p_65 =>
 loadV p_65 h_38 fun x_66 =>
 idxA 1 x_66 (g c_3 0) h_38 fun p_67 =>
 loadV p_67 h_38 fun x_68 =>
 idxA 2 x_68 (g c_3 1) h_38 fun p_69 =>
 fldA 1 p_69 fun p_70 =>
 loadV p_70 h_38 fun x_71 =>
 lenA x_71 fun x_72 =>
 binA .add x_63 x_72 fun x_73 =>
 newA 1 [(I 0)] h_38 fun p_74 h_75 =>
 (loadV p_62 h_75 fun x_121 =>
 TV.av x_121 = TV.av x_63) ∧
 (loadV p_1 h_75 fun x_120 =>
 TV.av x_120 = TV.av x_64) ∧
 (loadV p_65 h_75 fun x_119 =>
 TV.av x_119 = TV.av x_66) ∧
 (TV.av (g c_3 0) = TV.av (g c_3 0)) ∧
 (idxA 1 x_66 (g c_3 0) h_75 fun p_118 =>
 TV.av p_118 = TV.av p_67) ∧
 (loadV p_67 h_75 fun x_117 =>
 TV.av x_117 = TV.av x_68) ∧
 (TV.av (g c_3 1) = TV.av (g c_3 1)) ∧
 (idxA 2 x_68 (g c_3 1) h_75 fun p_116 =>
 TV.av p_116 = TV.av p_69) ∧
 (loadV p_70 h_75 fun x_115 =>
 TV.av x_115 = TV.av x_71) ∧
 (oneA x_73 <|
 storeG p_74 [x_73] h_75 fun h_76 =>
 loadV p_1 h_76 fun x_77 =>
 nilA x_77 <|
 fldA 6 x_77 fun p_78 =>
 loadV p_78 h_76 fun x_79 =>
 lookA [(.int .i64), (.int .i64)] false .e0 x_79 (.agg [(g c_3 0), (g c_3 1)]) h_76 fun x_80 =>
 lenA x_80 fun x_82 =>
 loopS (fun s_83 h_84 K_85 =>
 binA .lss (g s_83 0) x_82 fun x_86 =>
 brA x_86 (idxA 2 x_80 (g s_83 0) h_84 fun p_87 =>
 loadG 2 p_87 h_84 fun c_88 =>
 loadV p_1 h_84 fun x_89 =>
 nilA x_89 <|
 fldA 5 x_89 fun p_90 =>
 loadV p_90 h_84 fun x_91 =>
 lookA [(.int .i64), (.int .i64)] false .e0 x_91 (.agg [(g c_88 0), (g c_88 1)]) h_84 fun x_92 =>
 lenA x_92 fun x_94 =>
 loopS (fun s_95 h_96 K_97 =>
 binA .lss (g s_95 0) x_94 fun x_98 =>
 brA x_98 (idxA 2 x_92 (g s_95 0) h_96 fun p_99 =>
 loadG 2 p_99 h_96 fun c_100 =>
 newA 2 [(I 0), (I 0)] h_96 fun p_101 h_102 =>
 storeG p_101 [(g c_100 0), (g c_100 1)] h_102 fun h_103 =>
 loadV p_1 h_103 fun x_104 =>
 loadV p_1 h_103 fun x_105 =>
 nilA x_105 <|
 fldA 8 x_105 fun p_106 =>
 loadV p_106 h_103 fun x_107 =>
 oneA (.fn 188 [p_1, p_101, p_5, p_74]) <|
 appA 1 8 x_107 (.rs 1 [[(.fn 188 [p_1, p_101, p_5, p_74])]]) h_103 fun x_108 h_109 =>
 (loadV p_1 h_109 fun x_113 =>
 TV.av x_113 = TV.av x_104) ∧
 (nilA x_104 <|
 fldA 8 x_104 fun p_110 =>
 oneA x_108 <|
 storeG p_110 [x_108] h_109 fun h_111 =>
 binA .add (g s_95 0) (I 1) fun x_112 =>
 K_97 [x_112] h_111)) (binA .add (g s_83 0) (I 1) fun x_114 =>
 K_85 [x_114] h_96)) [(I 0)] h_84) (retA (.tup []) h_84 Q)) [(I 0)] h_76))) [(I 0)] h_22) (fldA 1 p_5 fun p_122 =>
 loadV p_122 h_22 fun x_123 =>
 loadV p_1 h_22 fun x_124 =>
 nilA x_124 <|
 fldA 2 x_124 fun p_125 =>
 loadV p_125 h_22 fun x_126 =>
 idxA 1 x_126 (g c_3 0) h_22 fun p_127 =>
 loadV p_127 h_22 fun x_128 =>
 idxA 2 x_128 (g c_3 1) h_22 fun p_129 =>
 fldA 1 p_129 fun p_130 =>
 loadV p_130 h_22 fun x_131 =>
 lenA x_131 fun x_132 =>
 binA .add x_123 x_132 fun x_133 =>
 newA 1 [(I 0)] h_22 fun p_134 h_135 =>
 (loadV p_122 h_135 fun x_181 =>
 TV.av x_181 = TV.av x_123) ∧
 (loadV p_1 h_135 fun x_180 =>
 TV.av x_180 = TV.av x_124) ∧
 (loadV p_125 h_135 fun x_179 =>
 TV.av x_179 = TV.av x_126) ∧
 (TV.av (g c_3 0) = TV.av (g c_3 0)) ∧
 (idxA 1 x_126 (g c_3 0) h_135 fun p_178 =>
 TV.av p_178 = TV.av p_127) ∧
 (loadV p_127 h_135 fun x_177 =>
 TV.av x_177 = TV.av x_128) ∧
 (TV.av (g c_3 1) = TV.av (g c_3 1)) ∧
 (idxA 2 x_128 (g c_3 1) h_135 fun p_176 =>
 TV.av p_176 = TV.av p_129) ∧
 (loadV p_130 h_135 fun x_175 =>
 TV.av x_175 = TV.av x_131) ∧
 (oneA x_133 <|
 storeG p_134 [x_133] h_135 fun h_136 =>
 loadV p_1 h_136 fun x_137 =>
 nilA x_137 <|
 fldA 6 x_137 fun p_138 =>
 loadV p_138 h_136 fun x_139 =>
 lookA [(.int .i64), (.int .i64)] false .e0 x_139 (.agg [(g c_3 0), (g c_3 1)]) h_136 fun x_140 =>
 lenA x_140 fun x_142 =>
 loopS (fun s_143 h_144 K_145 =>
 binA .lss (g s_143 0) x_142 fun x_146 =>
 brA x_146 (idxA 2 x_140 (g s_143 0) h_144 fun p_147 =>
 loadG 2 p_147 h_144 fun c_148 =>
 loadV p_1 h_144 fun x_149 =>
 nilA x_149 <|
 fldA 5 x_149 fun p_150 =>
 loadV p_150 h_144 fun x_151 =>
 lookA [(.int .i64), (.int .i64)] false .e0 x_151 (.agg [(g c_148 0), (g c_148 1)]) h_144 fun x_152 =>
 lenA x_152 fun x_154 =>
 loopS (fun s_155 h_156 K_157 =>
 binA .lss (g s_155 0) x_154 fun x_158 =>
 brA x_158 (idxA 2 x_152 (g s_155 0) h_156 fun p_159 =>
 loadG 2 p_159 h_156 fun c_160 =>
 newA 2 [(I 0), (I 0)] h_156 fun p_161 h_162 =>
 storeG p_161 [(g c_160 0), (g c_160 1)] h_162 fun h_163 =>
 loadV p_1 h_163 fun x_164 =>
 loadV p_1 h_163 fun x_165 =>
 nilA x_165 <|
 fldA 8 x_165 fun p_166 =>
 loadV p_166 h_163 fun x_167 =>
 oneA (.fn 188 [p_1, p_161, p_5, p_134]) <|
 appA 1 8 x_167 (.rs 1 [[(.fn 188 [p_1, p_161, p_5, p_134])]]) h_163 fun x_168 h_169 =>
 (loadV p_1 h_169 fun x_173 =>
 TV.av x_173 = TV.av x_164) ∧
 (nilA x_164 <|
 fldA 8 x_164 fun p_170 =>
 oneA x_168 <|
 storeG p_170 [x_168] h_169 fun h_171 =>
 binA .add (g s_155 0) (I 1) fun x_172 =>
 K_157 [x_172] h_171)) (binA .add (g s_143 0) (I 1) fun x_174 =>
 K_145 [x_174] h_156)) [(I 0)] h_144) (retA (.tup []) h_144 Q)) [(I 0)] h_136)))
def c_flow_analysis_add : Cfg := ⟨tab, [3, 5, 9, 13], [(5, ⟨[51], [], [6, 7, 8, 51, 52, 53, 54, 55, 56, 57, 58, 59, 60, 61, 62, 63, 64, 65, 66, 67, 68, 69, 70, 71, 72, 73, 74, 75, 76, 77, 78, 79, 80]⟩), (13, ⟨[105], [], [11, 13, 105, 106, 107, 108, 109, 110, 111, 112, 113, 114, 115, 116, 117, 118, 119, 120, 121, 122, 123, 124, 125, 126, 127, 128, 129, 130, 131]⟩), (16, ⟨[116], [], [13, 116, 117, 118, 119, 120, 121, 122, 123, 124, 125, 126, 127, 128, 129, 130]⟩)], [(1, [0, 1, 2, 3, 4, 6, 5, 15, 7]), (2, [0, 1, 2, 3, 4, 6, 5, 15, 7]), (3, [0, 1, 2, 3, 4, 5, 6, 7]), (4, [0, 1, 2, 3, 4, 5, 6, 7, 8, 9, 10, 11, 12, 13, 14]), (8, [0, 1, 2, 3, 4, 5, 6, 7, 8, 9, 10]), (11, [0, 1, 2, 3, 4, 5, 6, 7, 8, 9, 10, 11, 12, 13, 14, 15, 16, 17, 21, 22, 25, 27, 28, 29, 31, 32, 34, 18]), (12, [0, 1, 2, 3, 4, 7, 5, 6]), (15, [0, 1, 2, 3, 4, 7, 5, 6]), (18, [0, 1, 2, 3, 4, 5, 6, 7, 12, 8, 9, 10])], [14, 17, 18, 20, 22, 25, 26, 28, 29, 32, 34, 35, 36, 37, 40, 42, 43, 44, 46, 47, 49, 61, 64, 66, 67, 68, 82, 83, 86, 88, 89, 90, 92, 93, 95, 98, 101, 102, 109, 112, 113, 120, 121, 124], []⟩
theorem flow_analysis_add_eq (a0 a1 a2 : AV) (h : Heap) (Q : AV → Heap → Prop) : abody prog c_flow_analysis_add f156 [a0, a1, a2] h Q = flow_analysis_add a0 a1 a2 h Q := by kernel_rfl
theorem flow_analysis_add_ok : fnB c_flow_analysis_add f156 = true := by kernel_rfl
theorem flow_analysis_add_call {a0 a1 a2 : AV} {h : Heap} {Q : AV → Heap → Prop} (hk : flow_analysis_add a0 a1 a2 h Q) : ACalls prog n_flow_analysis_add [a0, a1, a2] h Q := contract (cf := c_flow_analysis_add) tab_ok prog_mixed func156 flow_analysis_add_ok (Eq.mpr (flow_analysis_add_eq a0 a1 a2 h Q) hk)
def flow_analysis_add_1 (a0 a1 a2 a3 : AV) (h : Heap) (Q : AV → Heap → Prop) : Prop :=
 loadV a0 h fun x_1 =>
 loadG 2 a1 h fun c_2 =>
 fldA 0 a2 fun p_3 =>
 loadV p_3 h fun x_4 =>
 loadV a3 h fun x_5 =>
 oneA x_4 <|
 oneA x_5 <|
 callS prog n_flow_analysis_add [x_1, (.agg [(g c_2 0), (g c_2 1)]), (.agg [x_4, x_5])] h fun r_6 h_7 =>
 retA (.tup []) h_7 Q
def c_flow_analysis_add_1 : Cfg := ⟨tab, [], [], [], [], []⟩
theorem flow_analysis_add_1_eq (a0 a1 a2 a3 : AV) (h : Heap) (Q : AV → Heap → Prop) : abody prog c_flow_analysis_add_1 f188 [a0, a1, a2, a3] h Q = flow_analysis_add_1 a0 a1 a2 a3 h Q := by kernel_rfl
theorem flow_analysis_add_1_ok : fnB c_flow_analysis_add_1 f188 = true := by kernel_rfl
theorem flow_analysis_add_1_call {a0 a1 a2 a3 : AV} {h : Heap} {Q : AV → Heap → Prop} (hk : flow_analysis_add_1 a0 a1 a2 a3 h Q) : ACalls prog n_flow_analysis_add_1 [a0, a1, a2, a3] h Q := contract (cf := c_flow_analysis_add_1) tab_ok prog_mixed func188 flow_analysis_add_1_ok (Eq.mpr (flow_analysis_add_1_eq a0 a1 a2 a3 h Q) hk)
def flow_analysis_come (a0 a1 a2 a3 : AV) (h : Heap) (Q : AV → Heap → Prop) : Prop :=
 oneA a0 <|
 newA 1 [a0] h fun p_1 h_2 =>
 aggA 2 a3 fun c_3 =>
 loadV p_1 h_2 fun x_4 =>
 nilA x_4 <|
 fldA 3 x_4 fun p_5 =>
 loadV p_5 h_2 fun x_6 =>
 idxA 1 x_6 a1 h_2 fun p_7 =>
 loadV p_7 h_2 fun x_8 =>
 idxA 1 x_8 a2 h_2 fun p_9 =>
 loadV p_9 h_2 fun x_10 =>
 lookA [(.int .i64), (.int .i64)] false (B false) x_10 (.agg [(g c_3 0), (g c_3 1)]) h_2 fun x_11 =>
 brA x_11 (retA (.tup []) h_2 Q) (loadV p_1 h_2 fun x_13 =>
 nilA x_13 <|
 fldA 3 x_13 fun p_14 =>
 loadV p_14 h_2 fun x_15 =>
 idxA 1 x_15 a1 h_2 fun p_16 =>
 loadV p_16 h_2 fun x_17 =>
 idxA 1 x_17 a2 h_2 fun p_18 =>
 loadV p_18 h_2 fun x_19 =>
 updA [(.int .i64), (.int .i64)] x_19 (.agg [(g c_3 0), (g c_3 1)]) (B true) h_2 fun h_21 =>
 loadV p_1 h_21 fun x_22 =>
 nilA x_22 <|
 fldA 6 x_22 fun p_23 =>
 loadV p_23 h_21 fun x_24 =>
 oneA a1 <|
 oneA a2 <|
 entA [(.int .i64), (.int .i64)] .e0 x_24 (.agg [(g c_3 0), (g c_3 1)]) h_21 fun x_25 h_26 =>
 tupA x_25 0 fun x_27 =>
 tupA x_25 1 fun x_28 =>
 appA 2 16 x_27 (.rs 2 [[a1, a2]]) h_26 fun x_29 h_30 =>
 oneA x_29 <|
 entS x_24 x_28 x_29 h_30 fun h_32 =>
 loadV p_1 h_32 fun x_33 =>
 nilA x_33 <|
 fldA 9 x_33 fun p_34 =>
 loadV p_34 h_32 fun x_35 =>
 binA .add x_35 (I 1) fun x_36 =>
 nilA x_33 <|
 fldA 9 x_33 fun p_37 =>
 oneA x_36 <|
 storeG p_37 [x_36] h_32 fun h_38 =>
 loadV p_1 h_38 fun x_39 =>
 nilA x_39 <|
 fldA 2 x_39 fun p_40 =>
 loadV p_40 h_38 fun x_41 =>
 idxA 1 x_41 (g c_3 0) h_38 fun p_42 =>
 loadV p_42 h_38 fun x_43 =>
 idxA 2 x_43 (g c_3 1) h_38 fun p_44 =>
 fldA 1 p_44 fun p_45 =>
 loadV p_45 h_38 fun x_46 =>
 lenA x_46 fun x_47 =>
 newA 1 [(I 0)] h_38 fun p_48 h_49 =>
 (loadV p_1 h_49 fun x_100 =>
 TV.av x_100 = TV.av x_39) ∧
 (loadV p_40 h_49 fun x_99 =>
 TV.av x_99 = TV.av x_41) ∧
 (TV.av (g c_3 0) = TV.av (g c_3 0)) ∧
 (idxA 1 x_41 (g c_3 0) h_49 fun p_98 =>
 TV.av p_98 = TV.av p_42) ∧
 (loadV p_42 h_49 fun x_97 =>
 TV.av x_97 = TV.av x_43) ∧
 (TV.av (g c_3 1) = TV.av (g c_3 1)) ∧
 (idxA 2 x_43 (g c_3 1) h_49 fun p_96 =>
 TV.av p_96 = TV.av p_44) ∧
 (loadV p_45 h_49 fun x_95 =>
 TV.av x_95 = TV.av x_46) ∧
 (oneA x_47 <|
 storeG p_48 [x_47] h_49 fun h_50 =>
 loadV p_1 h_50 fun x_51 =>
 nilA x_51 <|
 fldA 4 x_51 fun p_52 =>
 loadV p_52 h_50 fun x_53 =>
 lookA [(.int .i64), (.int .i64)] false (.val (.map none)) x_53 (.agg [(g c_3 0), (g c_3 1)]) h_50 fun x_54 =>
 rangeA x_54 h_50 fun i_56 h_57 =>
 loopS (fun s_58 h_59 K_60 =>
 nextA i_56 h_59 fun x_61 h_62 =>
 tupA x_61 0 fun x_63 =>
 brA x_63 (entryA i_56 h_62 fun x_64 =>
 tupA x_64 0 fun x_65 =>
 newA 2 [(I 0), (I 0)] h_62 fun p_66 h_67 =>
 aggA 2 x_65 fun c_68 =>
 storeG p_66 [(g c_68 0), (g c_68 1)] h_67 fun h_69 =>
 loadV p_1 h_69 fun x_70 =>
 nilA x_70 <|
 fldA 5 x_70 fun p_71 =>
 loadV p_71 h_69 fun x_72 =>
 oneA a1 <|
 oneA a2 <|
 lookA [(.int .i64), (.int .i64)] false .e0 x_72 (.agg [a1, a2]) h_69 fun x_73 =>
 lenA x_73 fun x_75 =>
 loopS (fun s_76 h_77 K_78 =>
 binA .lss (g s_76 0) x_75 fun x_79 =>
 brA x_79 (idxA 2 x_73 (g s_76 0) h_77 fun p_80 =>
 loadG 2 p_80 h_77 fun c_81 =>
 newA 2 [(I 0), (I 0)] h_77 fun p_82 h_83 =>
 storeG p_82 [(g c_81 0), (g c_81 1)] h_83 fun h_84 =>
 loadV p_1 h_84 fun x_85 =>
 loadV p_1 h_84 fun x_86 =>
 nilA x_86 <|
 fldA 8 x_86 fun p_87 =>
 loadV p_87 h_84 fun x_88 =>
 oneA (.fn 208 [p_1, p_82, p_66, p_48]) <|
 appA 1 8 x_88 (.rs 1 [[(.fn 208 [p_1, p_82, p_66, p_48])]]) h_84 fun x_89 h_90 =>
 (loadV p_1 h_90 fun x_94 =>
 TV.av x_94 = TV.av x_85) ∧
 (nilA x_85 <|
 fldA 8 x_85 fun p_91 =>
 oneA x_89 <|
 storeG p_91 [x_89] h_90 fun h_92 =>
 binA .add (g s_76 0) (I 1) fun x_93 =>
 K_78 [x_93] h_92)) (K_60 [] h_77)) [(I 0)] h_69) (retA (.tup []) h_62 Q)) [] h_57))
def c_flow_analysis_come : Cfg := ⟨tab, [4, 8, 9, 11], [(7, ⟨[], [], [9, 11, 76, 77, 78, 79, 80, 81, 82, 83, 84, 85, 86, 87, 88, 89, 90, 91, 92, 93, 94, 95, 96, 97, 98, 99, 100, 101, 102, 103]⟩), (10, ⟨[89], [], [11, 89, 90, 91, 92, 93, 94, 95, 96, 97, 98, 99, 100, 101, 102, 103]⟩)], [(1, [0, 1, 2, 3, 4, 5, 6, 7, 8, 9, 10, 11]), (2, [0, 1, 2, 3, 4, 5, 6, 7, 8, 9, 10, 11]), (3, [0, 1, 2, 3, 4, 5, 6, 7, 8, 9, 10, 12, 11, 13]), (5, [0, 1, 2, 3, 4, 5, 6, 7, 8, 9, 10, 11, 12, 13, 14, 17, 20, 22, 23, 24, 26, 27, 29, 15]), (6, [0, 1, 2, 3, 4, 5, 6]), (12, [0, 1, 2, 3, 4, 5, 6, 7, 12, 8, 9, 10])], [12, 15, 17, 18, 20, 21, 22, 24, 27, 29, 30, 32, 33, 34, 35, 38, 39, 55, 58, 60, 61, 62, 64, 65, 67, 69, 72, 73, 93, 94, 97], []⟩
theorem flow_analysis_come_eq (a0 a1 a2 a3 : AV) (h : Heap) (Q : AV → Heap → Prop) : abody prog c_flow_analysis_come f187 [a0, a1, a2, a3] h Q = flow_analysis_come a0 a1 a2 a3 h Q := by kernel_rfl
theorem flow_analysis_come_ok : fnB c_flow_analysis_come f187 = true := by kernel_rfl
theorem flow_analysis_come_call {a0 a1 a2 a3 : AV} {h : Heap} {Q : AV → Heap → Prop} (hk : flow_analysis_come a0 a1 a2 a3 h Q) : ACalls prog n_flow_analysis_come [a0, a1, a2, a3] h Q := contract (cf := c_flow_analysis_come) tab_ok prog_mixed func187 flow_analysis_come_ok (Eq.mpr (flow_analysis_come_eq a0 a1 a2 a3 h Q) hk)
def flow_analysis_come_1 (a0 a1 a2 a3 : AV) (h : Heap) (Q : AV → Heap → Prop) : Prop :=
 loadV a0 h fun x_1 =>
 loadG 2 a1 h fun c_2 =>
 fldA 0 a2 fun p_3 =>
 loadV p_3 h fun x_4 =>
 fldA 1 a2 fun p_5 =>
 loadV p_5 h fun x_6 =>
 loadV a3 h fun x_7 =>
 binA .add x_6 x_7 fun x_8 =>
 oneA x_4 <|
 oneA x_8 <|
 callS prog n_flow_analysis_add [x_1, (.agg [(g c_2 0), (g c_2 1)]), (.agg [x_4, x_8])] h fun r_9 h_10 =>
 retA (.tup []) h_10 Q
def c_flow_analysis_come_1 : Cfg := ⟨tab, [], [], [], [], []⟩
theorem flow_analysis_come_1_eq (a0 a1 a2 a3 : AV) (h : Heap) (Q : AV → Heap → Prop) : abody prog c_flow_analysis_come_1 f208 [a0, a1, a2, a3] h Q = flow_analysis_come_1 a0 a1 a2 a3 h Q := by kernel_rfl
theorem flow_analysis_come_1_ok : fnB c_flow_analysis_come_1 f208 = true := by kernel_rfl
theorem flow_analysis_come_1_call {a0 a1 a2 a3 : AV} {h : Heap} {Q : AV → Heap → Prop} (hk : flow_analysis_come_1 a0 a1 a2 a3 h Q) : ACalls prog n_flow_analysis_come_1 [a0, a1, a2, a3] h Q := contract (cf := c_flow_analysis_come_1) tab_ok prog_mixed func208 flow_analysis_come_1_ok (Eq.mpr (flow_analysis_come_1_eq a0 a1 a2 a3 h Q) hk)
def flow_analyse_k0 (a0 a1 : AV) (c_1 : List AV) (k6 : AV) (hk : Heap) (Q : AV → Heap → Prop) : Prop :=
 lenA (g c_1 1) fun x_12 =>
 loopS (fun s_13 h_14 K_15 =>
 binA .lss (g s_13 0) x_12 fun x_16 =>
 brA x_16 (nilA k6 <|
 fldA 2 k6 fun p_17 =>
 loadV p_17 h_14 fun x_18 =>
 idxA 5 (g c_1 1) (g s_13 0) h_14 fun p_19 =>
 fldA 2 p_19 fun p_20 =>
 callS prog n_flow_nodes [p_20] h_14 fun r_21 h_22 =>
 (loadV p_17 h_22 fun x_60 =>
 TV.av x_60 = TV.av x_18) ∧
 (oneA r_21 <|
 appA 1 24 x_18 (.rs 1 [[r_21]]) h_22 fun x_23 h_24 =>
 nilA k6 <|
 fldA 2 k6 fun p_25 =>
 oneA x_23 <|
 storeG p_25 [x_23] h_24 fun h_26 =>
 nilA k6 <|
 fldA 3 k6 fun p_27 =>
 loadV p_27 h_26 fun x_28 =>
 idxA 5 (g c_1 1) (g s_13 0) h_26 fun p_29 =>
 fldA 1 p_29 fun p_30 =>
 fldA 0 p_30 fun p_31 =>
 loadV p_31 h_26 fun x_32 =>
 lenA x_32 fun x_33 =>
 mkA 1 8 [(.val (.map none))] x_33 x_33 h_26 fun x_34 h_35 =>
 (loadV p_27 h_35 fun x_59 =>
 TV.av x_59 = TV.av x_28) ∧
 (oneA x_34 <|
 appA 1 24 x_28 (.rs 1 [[x_34]]) h_35 fun x_36 h_37 =>
 nilA k6 <|
 fldA 3 k6 fun p_38 =>
 oneA x_36 <|
 storeG p_38 [x_36] h_37 fun h_39 =>
 nilA k6 <|
 fldA 3 k6 fun p_40 =>
 loadV p_40 h_39 fun x_41 =>
 idxA 1 x_41 (g s_13 0) h_39 fun p_42 =>
 loadV p_42 h_39 fun x_43 =>
 lenA x_43 fun x_44 =>
 loopS (fun s_45 h_46 K_47 =>
 binA .lss (g s_45 0) x_44 fun x_48 =>
 brA x_48 (nilA k6 <|
 fldA 3 k6 fun p_49 =>
 loadV p_49 h_46 fun x_50 =>
 idxA 1 x_50 (g s_13 0) h_46 fun p_51 =>
 loadV p_51 h_46 fun x_52 =>
 newM h_46 fun m_53 h_54 =>
 idxA 1 x_52 (g s_45 0) h_54 fun p_55 =>
 oneA m_53 <|
 storeG p_55 [m_53] h_54 fun h_56 =>
 binA .add (g s_45 0) (I 1) fun x_57 =>
 K_47 [x_57] h_56) (binA .add (g s_13 0) (I 1) fun x_58 =>
 K_15 [x_58] h_46)) [(I 0)] h_39))) (lenA (g c_1 1) fun x_61 =>
 loopS (fun s_62 h_63 K_64 =>
 binA .lss (g s_62 0) x_61 fun x_65 =>
 brA x_65 (nilA k6 <|
 fldA 2 k6 fun p_66 =>
 loadV p_66 h_63 fun x_67 =>
 idxA 1 x_67 (g s_62 0) h_63 fun p_68 =>
 loadV p_68 h_63 fun x_69 =>
 lenA x_69 fun x_70 =>
 loopS (fun s_71 h_72 K_73 =>
 binA .lss (g s_71 0) x_70 fun x_74 =>
 brA x_74 (nilA k6 <|
 fldA 7 k6 fun p_75 =>
 loadV p_75 h_72 fun x_76 =>
 idxA 1 x_76 (g s_62 0) h_72 fun p_77 =>
 loadV p_77 h_72 fun x_78 =>
 brA x_78 (oneA (g s_62 0) <|
 oneA (g s_71 0) <|
 callS prog n_flow_analysis_begin [k6, (.agg [(g s_62 0), (g s_71 0)])] h_72 fun r_79 h_80 =>
 binA .add (g s_71 0) (I 1) fun x_81 =>
 K_73 [x_81] h_80) (brA a1 (oneA (g s_62 0) <|
 oneA (g s_71 0) <|
 callS prog n_flow_analysis_begin [k6, (.agg [(g s_62 0), (g s_71 0)])] h_72 fun r_82 h_83 =>
 binA .add (g s_71 0) (I 1) fun x_84 =>
 K_73 [x_84] h_83) (binA .add (g s_71 0) (I 1) fun x_85 =>
 K_73 [x_85] h_72))) (binA .add (g s_62 0) (I 1) fun x_86 =>
 K_64 [x_86] h_72)) [(I 0)] h_63) (loopS (fun s_87 h_88 K_89 =>
 nilA k6 <|
 fldA 8 k6 fun p_90 =>
 loadV p_90 h_88 fun x_91 =>
 lenA x_91 fun x_92 =>
 binA .gtr x_92 (I 0) fun x_93 =>
 brA x_93 (nilA k6 <|
 fldA 9 k6 fun p_94 =>
 loadV p_94 h_88 fun x_95 =>
 binA .leq x_95 (I 200000) fun x_96 =>
 brA x_96 (nilA k6 <|
 fldA 8 k6 fun p_97 =>
 loadV p_97 h_88 fun x_98 =>
 nilA k6 <|
 fldA 8 k6 fun p_99 =>
 loadV p_99 h_88 fun x_100 =>
 lenA x_100 fun x_101 =>
 binA .sub x_101 (I 1) fun x_102 =>
 idxA 1 x_98 x_102 h_88 fun p_103 =>
 loadV p_103 h_88 fun x_104 =>
 nilA k6 <|
 fldA 8 k6 fun p_105 =>
 loadV p_105 h_88 fun x_106 =>
 nilA k6 <|
 fldA 8 k6 fun p_107 =>
 loadV p_107 h_88 fun x_108 =>
 lenA x_108 fun x_109 =>
 binA .sub x_109 (I 1) fun x_110 =>
 sliceA 1 x_106 none (some x_110) fun x_111 =>
 nilA k6 <|
 fldA 8 k6 fun p_112 =>
 oneA x_111 <|
 storeG p_112 [x_111] h_88 fun h_113 =>
 callV prog x_104 [] h_113 fun r_114 h_115 =>
 K_89 [] h_115) (nilA k6 <|
 fldA 9 k6 fun p_116 =>
 loadV p_116 h_88 fun x_117 =>
 binA .leq x_117 (I 200000) fun x_118 =>
 retA (.tup [k6, x_118]) h_88 Q)) (nilA k6 <|
 fldA 9 k6 fun p_119 =>
 loadV p_119 h_88 fun x_120 =>
 binA .leq x_120 (I 200000) fun x_121 =>
 retA (.tup [k6, x_121]) h_88 Q)) [] h_63)) [(I 0)] h_14)) [(I 0)] hk
def flow_analyse (a0 a1 : AV) (h : Heap) (Q : AV → Heap → Prop) : Prop :=
 aggA 2 a0 fun c_1 =>
 (newM h fun m_2 h_3 =>
 (newM h_3 fun m_4 h_5 =>
 (newM h_5 fun m_6 h_7 =>
 (callS prog n_flow_reached [(.agg [(g c_1 0), (g c_1 1)])] h_7 fun r_8 h_9 =>
 (oneA m_2 <|
 oneA m_4 <|
 oneA m_6 <|
 oneA r_8 <|
 (newA 10 [(g c_1 0), (g c_1 1), .e0, .e0, m_2, m_4, m_6, r_8, .e0, (I 0)] h_9 fun p_10 h_11 =>
 (flow_analyse_k0 a0 a1 c_1 p_10 h_11 Q) ∧
 True) ∧
 True) ∧
 True) ∧
 True) ∧
 (callS prog n_flow_reached [(.agg [(g c_1 0), (g c_1 1)])] h_5 fun r_122 h_123 =>
 (newM h_123 fun m_124 h_125 =>
 (oneA m_2 <|
 oneA m_4 <|
 oneA m_124 <|
 oneA r_122 <|
 (newA 10 [(g c_1 0), (g c_1 1), .e0, .e0, m_2, m_4, m_124, r_122, .e0, (I 0)] h_125 fun p_126 h_127 =>
 (flow_analyse_k0 a0 a1 c_1 p_126 h_127 Q) ∧
 True) ∧
 True) ∧
 True) ∧
 True) ∧
 True) ∧
 (newM h_3 fun m_128 h_129 =>
 (newM h_129 fun m_130 h_131 =>
 (callS prog n_flow_reached [(.agg [(g c_1 0), (g c_1 1)])] h_131 fun r_132 h_133 =>
 (oneA m_2 <|
 oneA m_130 <|
 oneA m_128 <|
 oneA r_132 <|
 (newA 10 [(g c_1 0), (g c_1 1), .e0, .e0, m_2, m_130, m_128, r_132, .e0, (I 0)] h_133 fun p_134 h_135 =>
 (flow_analyse_k0 a0 a1 c_1 p_134 h_135 Q) ∧
 True) ∧
 True) ∧
 True) ∧
 True) ∧
 (callS prog n_flow_reached [(.agg [(g c_1 0), (g c_1 1)])] h_129 fun r_136 h_137 =>
 (newM h_137 fun m_138 h_139 =>
 (oneA m_2 <|
 oneA m_138 <|
 oneA m_128 <|
 oneA r_136 <|
 (newA 10 [(g c_1 0), (g c_1 1), .e0, .e0, m_2, m_138, m_128, r_136, .e0, (I 0)] h_139 fun p_140 h_141 =>
 (flow_analyse_k0 a0 a1 c_1 p_140 h_141 Q) ∧
 True) ∧
 True) ∧
 True) ∧
 True) ∧
 True) ∧
 (callS prog n_flow_reached [(.agg [(g c_1 0), (g c_1 1)])] h_3 fun r_142 h_143 =>
 (newM h_143 fun m_144 h_145 =>
 (newM h_145 fun m_146 h_147 =>
 (oneA m_2 <|
 oneA m_144 <|
 oneA m_146 <|
 oneA r_142 <|
 (newA 10 [(g c_1 0), (g c_1 1), .e0, .e0, m_2, m_144, m_146, r_142, .e0, (I 0)] h_147 fun p_148 h_149 =>
 (flow_analyse_k0 a0 a1 c_1 p_148 h_149 Q) ∧
 True) ∧
 True) ∧
 True) ∧
 True) ∧
 (newM h_143 fun m_150 h_151 =>
 (newM h_151 fun m_152 h_153 =>
 (oneA m_2 <|
 oneA m_152 <|
 oneA m_150 <|
 oneA r_142 <|
 (newA 10 [(g c_1 0), (g c_1 1), .e0, .e0, m_2, m_152, m_150, r_142, .e0, (I 0)] h_153 fun p_154 h_155 =>
 (flow_analyse_k0 a0 a1 c_1 p_154 h_155 Q) ∧
 True) ∧
 True) ∧
 True) ∧
 True) ∧
 True) ∧
 True) ∧
 (newM h fun m_156 h_157 =>
 (newM h_157 fun m_158 h_159 =>
 (newM h_159 fun m_160 h_161 =>
 (callS prog n_flow_reached [(.agg [(g c_1 0), (g c_1 1)])] h_161 fun r_162 h_163 =>
 (oneA m_158 <|
 oneA m_156 <|
 oneA m_160 <|
 oneA r_162 <|
 (newA 10 [(g c_1 0), (g c_1 1), .e0, .e0, m_158, m_156, m_160, r_162, .e0, (I 0)] h_163 fun p_164 h_165 =>
 (flow_analyse_k0 a0 a1 c_1 p_164 h_165 Q) ∧
 True) ∧
 True) ∧
 True) ∧
 True) ∧
 (callS prog n_flow_reached [(.agg [(g c_1 0), (g c_1 1)])] h_159 fun r_166 h_167 =>
 (newM h_167 fun m_168 h_169 =>
 (oneA m_158 <|
 oneA m_156 <|
 oneA m_168 <|
 oneA r_166 <|
 (newA 10 [(g c_1 0), (g c_1 1), .e0, .e0, m_158, m_156, m_168, r_166, .e0, (I 0)] h_169 fun p_170 h_171 =>
 (flow_analyse_k0 a0 a1 c_1 p_170 h_171 Q) ∧
 True) ∧
 True) ∧
 True) ∧
 True) ∧
 True) ∧
 (newM h_157 fun m_172 h_173 =>
 (newM h_173 fun m_174 h_175 =>
 (callS prog n_flow_reached [(.agg [(g c_1 0), (g c_1 1)])] h_175 fun r_176 h_177 =>
 (oneA m_174 <|
 oneA m_156 <|
 oneA m_172 <|
 oneA r_176 <|
 (newA 10 [(g c_1 0), (g c_1 1), .e0, .e0, m_174, m_156, m_172, r_176, .e0, (I 0)] h_177 fun p_178 h_179 =>
 (flow_analyse_k0 a0 a1 c_1 p_178 h_179 Q) ∧
 True) ∧
 True) ∧
 True) ∧
 True) ∧
 (callS prog n_flow_reached [(.agg [(g c_1 0), (g c_1 1)])] h_173 fun r_180 h_181 =>
 (newM h_181 fun m_182 h_183 =>
 (oneA m_182 <|
 oneA m_156 <|
 oneA m_172 <|
 oneA r_180 <|
 (newA 10 [(g c_1 0), (g c_1 1), .e0, .e0, m_182, m_156, m_172, r_180, .e0, (I 0)] h_183 fun p_184 h_185 =>
 (flow_analyse_k0 a0 a1 c_1 p_184 h_185 Q) ∧
 True) ∧
 True) ∧
 True) ∧
 True) ∧
 True) ∧
 (callS prog n_flow_reached [(.agg [(g c_1 0), (g c_1 1)])] h_157 fun r_186 h_187 =>
 (newM h_187 fun m_188 h_189 =>
 (newM h_189 fun m_190 h_191 =>
 (oneA m_188 <|
 oneA m_156 <|
 oneA m_190 <|
 oneA r_186 <|
 (newA 10 [(g c_1 0), (g c_1 1), .e0, .e0, m_188, m_156, m_190, r_186, .e0, (I 0)] h_191 fun p_192 h_193 =>
 (flow_analyse_k0 a0 a1 c_1 p_192 h_193 Q) ∧
 True) ∧
 True) ∧
 True) ∧
 True) ∧
 (newM h_187 fun m_194 h_195 =>
 (newM h_195 fun m_196 h_197 =>
 (oneA m_196 <|
 oneA m_156 <|
 oneA m_194 <|
 oneA r_186 <|
 (newA 10 [(g c_1 0), (g c_1 1), .e0, .e0, m_196, m_156, m_194, r_186, .e0, (I 0)] h_197 fun p_198 h_199 =>
 (flow_analyse_k0 a0 a1 c_1 p_198 h_199 Q) ∧
 True) ∧
 True) ∧
 True) ∧
 True) ∧
 True) ∧
 True) ∧
 (newM h fun m_200 h_201 =>
 (newM h_201 fun m_202 h_203 =>
 (newM h_203 fun m_204 h_205 =>
 (callS prog n_flow_reached [(.agg [(g c_1 0), (g c_1 1)])] h_205 fun r_206 h_207 =>
 (oneA m_202 <|
 oneA m_204 <|
 oneA m_200 <|
 oneA r_206 <|
 (newA 10 [(g c_1 0), (g c_1 1), .e0, .e0, m_202, m_204, m_200, r_206, .e0, (I 0)] h_207 fun p_208 h_209 =>
 (flow_analyse_k0 a0 a1 c_1 p_208 h_209 Q) ∧
 True) ∧
 True) ∧
 True) ∧
 True) ∧
 (callS prog n_flow_reached [(.agg [(g c_1 0), (g c_1 1)])] h_203 fun r_210 h_211 =>
 (newM h_211 fun m_212 h_213 =>
 (oneA m_202 <|
 oneA m_212 <|
 oneA m_200 <|
 oneA r_210 <|
 (newA 10 [(g c_1 0), (g c_1 1), .e0, .e0, m_202, m_212, m_200, r_210, .e0, (I 0)] h_213 fun p_214 h_215 =>
 (flow_analyse_k0 a0 a1 c_1 p_214 h_215 Q) ∧
 True) ∧
 True) ∧
 True) ∧
 True) ∧
 True) ∧
 (newM h_201 fun m_216 h_217 =>
 (newM h_217 fun m_218 h_219 =>
 (callS prog n_flow_reached [(.agg [(g c_1 0), (g c_1 1)])] h_219 fun r_220 h_221 =>
 (oneA m_218 <|
 oneA m_216 <|
 oneA m_200 <|
 oneA r_220 <|
 (newA 10 [(g c_1 0), (g c_1 1), .e0, .e0, m_218, m_216, m_200, r_220, .e0, (I 0)] h_221 fun p_222 h_223 =>
 (flow_analyse_k0 a0 a1 c_1 p_222 h_223 Q) ∧
 True) ∧
 True) ∧
 True) ∧
 True) ∧
 (callS prog n_flow_reached [(.agg [(g c_1 0), (g c_1 1)])] h_217 fun r_224 h_225 =>
 (newM h_225 fun m_226 h_227 =>
 (oneA m_226 <|
 oneA m_216 <|
 oneA m_200 <|
 oneA r_224 <|
 (newA 10 [(g c_1 0), (g c_1 1), .e0, .e0, m_226, m_216, m_200, r_224, .e0, (I 0)] h_227 fun p_228 h_229 =>
 (flow_analyse_k0 a0 a1 c_1 p_228 h_229 Q) ∧
 True) ∧
 True) ∧
 True) ∧
 True) ∧
 True) ∧
 (callS prog n_flow_reached [(.agg [(g c_1 0), (g c_1 1)])] h_201 fun r_230 h_231 =>
 (newM h_231 fun m_232 h_233 =>
 (newM h_233 fun m_234 h_235 =>
 (oneA m_232 <|
 oneA m_234 <|
 oneA m_200 <|
 oneA r_230 <|
 (newA 10 [(g c_1 0), (g c_1 1), .e0, .e0, m_232, m_234, m_200, r_230, .e0, (I 0)] h_235 fun p_236 h_237 =>
 (flow_analyse_k0 a0 a1 c_1 p_236 h_237 Q) ∧
 True) ∧
 True) ∧
 True) ∧
 True) ∧
 (newM h_231 fun m_238 h_239 =>
 (newM h_239 fun m_240 h_241 =>
 (oneA m_240 <|
 oneA m_238 <|
 oneA m_200 <|
 oneA r_230 <|
 (newA 10 [(g c_1 0), (g c_1 1), .e0, .e0, m_240, m_238, m_200, r_230, .e0, (I 0)] h_241 fun p_242 h_243 =>
 (flow_analyse_k0 a0 a1 c_1 p_242 h_243 Q) ∧
 True) ∧
 True) ∧
 True) ∧
 True) ∧
 True) ∧
 True) ∧
 (callS prog n_flow_reached [(.agg [(g c_1 0), (g c_1 1)])] h fun r_244 h_245 =>
 (newM h_245 fun m_246 h_247 =>
 (newM h_247 fun m_248 h_249 =>
 (newM h_249 fun m_250 h_251 =>
 (oneA m_246 <|
 oneA m_248 <|
 oneA m_250 <|
 oneA r_244 <|
 (newA 10 [(g c_1 0), (g c_1 1), .e0, .e0, m_246, m_248, m_250, r_244, .e0, (I 0)] h_251 fun p_252 h_253 =>
 (flow_analyse_k0 a0 a1 c_1 p_252 h_253 Q) ∧
 True) ∧
 True) ∧
 True) ∧
 True) ∧
 (newM h_247 fun m_254 h_255 =>
 (newM h_255 fun m_256 h_257 =>
 (oneA m_246 <|
 oneA m_256 <|
 oneA m_254 <|
 oneA r_244 <|
 (newA 10 [(g c_1 0), (g c_1 1), .e0, .e0, m_246, m_256, m_254, r_244, .e0, (I 0)] h_257 fun p_258 h_259 =>
 (flow_analyse_k0 a0 a1 c_1 p_258 h_259 Q) ∧
 True) ∧
 True) ∧
 True) ∧
 True) ∧
 True) ∧
 (newM h_245 fun m_260 h_261 =>
 (newM h_261 fun m_262 h_263 =>
 (newM h_263 fun m_264 h_265 =>
 (oneA m_262 <|
 oneA m_260 <|
 oneA m_264 <|
 oneA r_244 <|
 (newA 10 [(g c_1 0), (g c_1 1), .e0, .e0, m_262, m_260, m_264, r_244, .e0, (I 0)] h_265 fun p_266 h_267 =>
 (flow_analyse_k0 a0 a1 c_1 p_266 h_267 Q) ∧
 True) ∧
 True) ∧
 True) ∧
 True) ∧
 (newM h_261 fun m_268 h_269 =>
 (newM h_269 fun m_270 h_271 =>
 (oneA m_270 <|
 oneA m_260 <|
 oneA m_268 <|
 oneA r_244 <|
 (newA 10 [(g c_1 0), (g c_1 1), .e0, .e0, m_270, m_260, m_268, r_244, .e0, (I 0)] h_271 fun p_272 h_273 =>
 (flow_analyse_k0 a0 a1 c_1 p_272 h_273 Q) ∧
 True) ∧
 True) ∧
 True) ∧
 True) ∧
 True) ∧
 (newM h_245 fun m_274 h_275 =>
 (newM h_275 fun m_276 h_277 =>
 (newM h_277 fun m_278 h_279 =>
 (oneA m_276 <|
 oneA m_278 <|
 oneA m_274 <|
 oneA r_244 <|
 (newA 10 [(g c_1 0), (g c_1 1), .e0, .e0, m_276, m_278, m_274, r_244, .e0, (I 0)] h_279 fun p_280 h_281 =>
 (flow_analyse_k0 a0 a1 c_1 p_280 h_281 Q) ∧
 True) ∧
 True) ∧
 True) ∧
 True) ∧
 (newM h_275 fun m_282 h_283 =>
 (newM h_283 fun m_284 h_285 =>
 (oneA m_284 <|
 oneA m_282 <|
 oneA m_274 <|
 oneA r_244 <|
 (newA 10 [(g c_1 0), (g c_1 1), .e0, .e0, m_284, m_282, m_274, r_244, .e0, (I 0)] h_285 fun p_286 h_287 =>
 (flow_analyse_k0 a0 a1 c_1 p_286 h_287 Q) ∧
 True) ∧
 True) ∧
 True) ∧
 True) ∧
 True) ∧
 True) ∧
 True
def c_flow_analyse : Cfg := ⟨tab, [19], [(3, ⟨[23], [], [7, 8, 23, 24, 25, 26, 27, 28, 29, 30, 31, 32, 33, 34, 35, 36, 37, 38, 39, 40, 41, 42, 43, 44, 45, 46, 47, 48, 49, 50, 51, 52, 53, 54, 55, 56, 57, 58, 59, 60, 61, 62, 63, 64, 65, 66, 67, 68, 69, 70, 71, 72, 73, 74, 75, 76, 77, 78, 79, 80, 81]⟩), (8, ⟨[67], [], [8, 67, 68, 69, 70, 71, 72, 73, 74, 75, 76, 77, 78, 79, 80]⟩), (14, ⟨[85], [], [9, 10, 85, 86, 87, 88, 89, 90, 91, 92, 93, 94, 95, 96, 97, 98, 99, 100, 101, 102, 103, 104, 105, 106, 107, 108, 109, 110, 111, 112, 113, 114, 115]⟩), (17, ⟨[96], [], [10, 96, 97, 98, 99, 100, 101, 102, 103, 104, 105, 106, 107, 108, 109, 110, 111, 112, 113, 114]⟩), (23, ⟨[], [], [11, 116, 117, 118, 119, 120, 121, 122, 123, 124, 125, 126, 127, 128, 129, 130, 131, 132, 133, 134, 135, 136, 137, 138, 139, 140, 141, 142, 143, 144, 145, 146, 147, 148, 149, 150, 151, 152, 153, 154, 155, 156]⟩)], [(1, [0, 4, 9, 9, 1, 2, 3, 5, 6, 7, 8]), (5, [0, 1, 2, 3, 4, 5, 6, 7, 8, 9, 10, 21, 11, 12, 13, 14, 15]), (6, [0, 1, 2, 3, 4, 5, 6, 7, 8, 9, 10, 11, 12, 13, 24, 14, 15, 16, 17, 18]), (24, [0, 1, 2, 3, 4, 5, 6, 7, 8, 9, 10, 11, 12]), (25, [0, 1, 2, 3, 4, 5, 6, 7, 8, 9, 10, 11, 12, 13, 14]), (27, [0, 1, 2, 3, 4, 5, 6, 7])], [30, 32, 34, 45, 47, 49, 52, 132, 136, 139, 140, 145, 149, 161], []⟩
theorem flow_analyse_eq (a0 a1 : AV) (h : Heap) (Q : AV → Heap → Prop) : abody prog c_flow_analyse f60 [a0, a1] h Q = flow_analyse a0 a1 h Q := by kernel_rfl
theorem flow_analyse_ok : fnB c_flow_analyse f60 = true := by kernel_rfl
theorem flow_analyse_call {a0 a1 : AV} {h : Heap} {Q : AV → Heap → Prop} (hk : flow_analyse a0 a1 h Q) : ACalls prog n_flow_analyse [a0, a1] h Q := contract (cf := c_flow_analyse) tab_ok prog_mixed func60 flow_analyse_ok (Eq.mpr (flow_analyse_eq a0 a1 h Q) hk)
def flow_Flow (a0 : AV) (h : Heap) (Q : AV → Heap → Prop) : Prop :=
 aggA 2 a0 fun c_1 =>
 callS prog n_scheme_Check [(.agg [(g c_1 0), (g c_1 1)])] h fun r_2 h_3 =>
 binA .neq r_2 (I 0) fun x_4 =>
 brA x_4 (retA (.tup [.e0, r_2]) h_3 Q) (callS prog n_flow_analyse [(.agg [(g c_1 0), (g c_1 1)]), (B false)] h_3 fun r_5 h_6 =>
 tupA r_5 0 fun x_7 =>
 tupA r_5 1 fun x_8 =>
 notA x_8 fun x_9 =>
 brA x_9 (retA (.tup [.e0, (I 3)]) h_6 Q) (lenA (g c_1 1) fun x_10 =>
 mkA 1 24 [.e0] x_10 x_10 h_6 fun x_11 h_12 =>
 lenA (g c_1 1) fun x_13 =>
 loopS (fun s_14 h_15 K_16 =>
 binA .lss (g s_14 0) x_13 fun x_17 =>
 brA x_17 (nilA x_7 <|
 fldA 3 x_7 fun p_18 =>
 loadV p_18 h_15 fun x_19 =>
 idxA 1 x_19 (g s_14 0) h_15 fun p_20 =>
 loadV p_20 h_15 fun x_21 =>
 lenA x_21 fun x_22 =>
 mkA 1 24 [.e0] x_22 x_22 h_15 fun x_23 h_24 =>
 idxA 1 x_11 (g s_14 0) h_24 fun p_25 =>
 oneA x_23 <|
 storeG p_25 [x_23] h_24 fun h_26 =>
 nilA x_7 <|
 fldA 3 x_7 fun p_27 =>
 loadV p_27 h_26 fun x_28 =>
 idxA 1 x_28 (g s_14 0) h_26 fun p_29 =>
 loadV p_29 h_26 fun x_30 =>
 lenA x_30 fun x_31 =>
 loopS (fun s_32 h_33 K_34 =>
 binA .lss (g s_32 0) x_31 fun x_35 =>
 brA x_35 (idxA 1 x_11 (g s_14 0) h_33 fun p_36 =>
 loadV p_36 h_33 fun x_37 =>
 nilA x_7 <|
 fldA 3 x_7 fun p_38 =>
 loadV p_38 h_33 fun x_39 =>
 idxA 1 x_39 (g s_14 0) h_33 fun p_40 =>
 loadV p_40 h_33 fun x_41 =>
 idxA 1 x_41 (g s_32 0) h_33 fun p_42 =>
 loadV p_42 h_33 fun x_43 =>
 callS prog n_flow_sorted [x_43] h_33 fun r_44 h_45 =>
 (idxA 1 x_11 (g s_14 0) h_45 fun p_50 =>
 TV.av p_50 = TV.av p_36) ∧
 (loadV p_36 h_45 fun x_49 =>
 TV.av x_49 = TV.av x_37) ∧
 idxA 1 x_37 (g s_32 0) h_45 fun p_46 =>
 oneA r_44 <|
 storeG p_46 [r_44] h_45 fun h_47 =>
 binA .add (g s_32 0) (I 1) fun x_48 =>
 K_34 [x_48] h_47) (binA .add (g s_14 0) (I 1) fun x_51 =>
 K_16 [x_51] h_33)) [(I 0)] h_26) (retA (.tup [x_11, (I 0)]) h_15 Q)) [(I 0)] h_12))
def c_flow_Flow : Cfg := ⟨tab, [], [(9, ⟨[29], [], [8, 9, 29, 30, 31, 32, 33, 34, 35, 36, 37, 38, 39, 40, 41, 42, 43, 44, 45, 46, 47, 48, 49, 50, 51, 52, 53, 54, 55, 56, 57, 58, 59, 60, 61, 62, 63, 64, 65, 66, 67, 68, 69, 70, 71, 72, 73]⟩), (13, ⟨[52], [], [9, 52, 53, 54, 55, 56, 57, 58, 59, 60, 61, 62, 63, 64, 65, 66, 67, 68, 69, 70, 71, 72]⟩)], [(15, [0, 1, 2, 3, 4, 5, 6, 7, 8, 9, 10, 11, 12, 13, 14, 15, 21, 22, 16, 17])], [57, 58, 63, 65, 66, 68, 69, 71], []⟩
theorem flow_Flow_eq (a0 : AV) (h : Heap) (Q : AV → Heap → Prop) : abody prog c_flow_Flow f27 [a0] h Q = flow_Flow a0 h Q := by kernel_rfl
theorem flow_Flow_ok : fnB c_flow_Flow f27 = true := by kernel_rfl
theorem flow_Flow_call {a0 : AV} {h : Heap} {Q : AV → Heap → Prop} (hk : flow_Flow a0 h Q) : ACalls prog n_flow_Flow [a0] h Q := contract (cf := c_flow_Flow) tab_ok prog_mixed func27 flow_Flow_ok (Eq.mpr (flow_Flow_eq a0 h Q) hk)
def flow_sorted (a0 : AV) (h : Heap) (Q : AV → Heap → Prop) : Prop :=
 rangeA a0 h fun i_1 h_2 =>
 loopS (fun s_3 h_4 K_5 =>
 nextA i_1 h_4 fun x_6 h_7 =>
 tupA x_6 0 fun x_8 =>
 brA x_8 (entryA i_1 h_7 fun x_9 =>
 tupA x_9 0 fun x_10 =>
 aggA 2 x_10 fun c_11 =>
 appA 2 16 (g s_3 0) (.rs 2 [[(g c_11 0), (g c_11 1)]]) h_7 fun x_12 h_13 =>
 K_5 [x_12] h_13) (callS prog n_slices_SortFunc_flow_Place_flow_Place [(g s_3 0), (.fn 121 [])] h_7 fun r_14 h_15 =>
 retA (g s_3 0) h_15 Q)) [.e0] h_2
def c_flow_sorted : Cfg := ⟨tab, [], [(3, ⟨[3], [], [3, 4, 7, 8, 9, 10, 11, 12, 13, 14]⟩)], [], [], []⟩
theorem flow_sorted_eq (a0 : AV) (h : Heap) (Q : AV → Heap → Prop) : abody prog c_flow_sorted f68 [a0] h Q = flow_sorted a0 h Q := by kernel_rfl
theorem flow_sorted_ok : fnB c_flow_sorted f68 = true := by kernel_rfl
theorem flow_sorted_call {a0 : AV} {h : Heap} {Q : AV → Heap → Prop} (hk : flow_sorted a0 h Q) : ACalls prog n_flow_sorted [a0] h Q := contract (cf := c_flow_sorted) tab_ok prog_mixed func68 flow_sorted_ok (Eq.mpr (flow_sorted_eq a0 h Q) hk)
def flow_at (a0 a1 : AV) (h : Heap) (Q : AV → Heap → Prop) : Prop :=
 aggA 2 a0 fun c_1 =>
 aggA 2 a1 fun c_2 =>
 binA .lss (g c_2 0) (I 0) fun x_3 =>
 brA x_3 (retA (.tup [(.val (.pointer none)), (B false)]) h Q) (lenA (g c_1 1) fun x_4 =>
 binA .geq (g c_2 0) x_4 fun x_5 =>
 brA x_5 (retA (.tup [(.val (.pointer none)), (B false)]) h Q) (idxA 5 (g c_1 1) (g c_2 0) h fun p_6 =>
 fldA 2 p_6 fun p_7 =>
 callS prog n_flow_nodes [p_7] h fun r_8 h_9 =>
 binA .lss (g c_2 1) (I 0) fun x_10 =>
 brA x_10 (retA (.tup [(.val (.pointer none)), (B false)]) h_9 Q) (lenA r_8 fun x_11 =>
 binA .geq (g c_2 1) x_11 fun x_12 =>
 brA x_12 (retA (.tup [(.val (.pointer none)), (B false)]) h_9 Q) (idxA 2 r_8 (g c_2 1) h_9 fun p_13 =>
 fldA 0 p_13 fun p_14 =>
 loadV p_14 h_9 fun x_15 =>
 retA (.tup [x_15, (B true)]) h_9 Q))))
def c_flow_at : Cfg := ⟨tab, [], [], [], [], []⟩
theorem flow_at_eq (a0 a1 : AV) (h : Heap) (Q : AV → Heap → Prop) : abody prog c_flow_at f59 [a0, a1] h Q = flow_at a0 a1 h Q := by kernel_rfl
theorem flow_at_ok : fnB c_flow_at f59 = true := by kernel_rfl
theorem flow_at_call {a0 a1 : AV} {h : Heap} {Q : AV → Heap → Prop} (hk : flow_at a0 a1 h Q) : ACalls prog n_flow_at [a0, a1] h Q := contract (cf := c_flow_at) tab_ok prog_mixed func59 flow_at_ok (Eq.mpr (flow_at_eq a0 a1 h Q) hk)
def flow_copied (a0 : AV) (h : Heap) (Q : AV → Heap → Prop) : Prop :=
 aggA 3 a0 fun c_1 =>
 lenA (g c_1 2) fun x_2 =>
 loopS (fun s_3 h_4 K_5 =>
 binA .lss (g s_3 1) x_2 fun x_6 =>
 brA x_6 (idxA 3 (g c_1 2) (g s_3 1) h_4 fun p_7 =>
 loadG 3 p_7 h_4 fun c_8 =>
 callS prog n_flow_copied [(.agg [(g c_8 0), (g c_8 1), (g c_8 2)])] h_4 fun r_9 h_10 =>
 aggA 3 r_9 fun c_11 =>
 appA 3 40 (g s_3 0) (.rs 3 [[(g c_11 0), (g c_11 1), (g c_11 2)]]) h_10 fun x_12 h_13 =>
 binA .add (g s_3 1) (I 1) fun x_14 =>
 K_5 [x_12, x_14] h_13) (oneA (g s_3 0) <|
 retA (.agg [(g c_1 0), (g c_1 1), (g s_3 0)]) h_4 Q)) [.e0, (I 0)] h
def c_flow_copied : Cfg := ⟨tab, [], [(3, ⟨[3, 9], [], [3, 5, 9, 10, 11, 12, 13, 14, 15, 16, 17, 18]⟩)], [], [], []⟩
theorem flow_copied_eq (a0 : AV) (h : Heap) (Q : AV → Heap → Prop) : abody prog c_flow_copied f71 [a0] h Q = flow_copied a0 h Q := by kernel_rfl
theorem flow_copied_ok : fnB c_flow_copied f71 = true := by kernel_rfl
theorem flow_copied_call {a0 : AV} {h : Heap} {Q : AV → Heap → Prop} (hk : flow_copied a0 h Q) : ACalls prog n_flow_copied [a0] h Q := contract (cf := c_flow_copied) tab_ok prog_mixed func71 flow_copied_ok (Eq.mpr (flow_copied_eq a0 h Q) hk)
def flow_At (a0 a1 : AV) (h : Heap) (Q : AV → Heap → Prop) : Prop :=
 aggA 2 a0 fun c_1 =>
 aggA 2 a1 fun c_2 =>
 callS prog n_scheme_Check [(.agg [(g c_1 0), (g c_1 1)])] h fun r_3 h_4 =>
 binA .neq r_3 (I 0) fun x_5 =>
 brA x_5 (retA (.tup [(.agg [(I 0), (I 0), .e0]), r_3]) h_4 Q) (callS prog n_flow_at [(.agg [(g c_1 0), (g c_1 1)]), (.agg [(g c_2 0), (g c_2 1)])] h_4 fun r_6 h_7 =>
 tupA r_6 0 fun x_8 =>
 tupA r_6 1 fun x_9 =>
 notA x_9 fun x_10 =>
 brA x_10 (retA (.tup [(.agg [(I 0), (I 0), .e0]), (I 2)]) h_7 Q) (nilA x_8 <|
 loadG 3 x_8 h_7 fun c_11 =>
 callS prog n_flow_copied [(.agg [(g c_11 0), (g c_11 1), (g c_11 2)])] h_7 fun r_12 h_13 =>
 aggA 3 r_12 fun c_14 =>
 retA (.tup [(.agg [(g c_14 0), (g c_14 1), (g c_14 2)]), (I 0)]) h_13 Q))
def c_flow_At : Cfg := ⟨tab, [], [], [], [], []⟩
theorem flow_At_eq (a0 a1 : AV) (h : Heap) (Q : AV → Heap → Prop) : abody prog c_flow_At f29 [a0, a1] h Q = flow_At a0 a1 h Q := by kernel_rfl
theorem flow_At_ok : fnB c_flow_At f29 = true := by kernel_rfl
theorem flow_At_call {a0 a1 : AV} {h : Heap} {Q : AV → Heap → Prop} (hk : flow_At a0 a1 h Q) : ACalls prog n_flow_At [a0, a1] h Q := contract (cf := c_flow_At) tab_ok prog_mixed func29 flow_At_ok (Eq.mpr (flow_At_eq a0 a1 h Q) hk)
def vref19_At (a0 a1 : AV) (h : Heap) (Q : AV → Heap → Prop) : Prop :=
 aggA 2 a0 fun c_1 =>
 aggA 2 a1 fun c_2 =>
 callS prog n_vref03_Is [(.agg [(g c_1 0), (g c_1 1)])] h fun r_3 h_4 =>
 notA r_3 fun x_5 =>
 brA x_5 (retA (.tup [(.agg [(I 0), (I 0), .e0]), (I 7)]) h_4 Q) (binA .lss (g c_2 0) (I 0) fun x_6 =>
 brA x_6 (retA (.tup [(.agg [(I 0), (I 0), .e0]), (I 2)]) h_4 Q) (lenA (g c_1 1) fun x_7 =>
 binA .geq (g c_2 0) x_7 fun x_8 =>
 brA x_8 (retA (.tup [(.agg [(I 0), (I 0), .e0]), (I 2)]) h_4 Q) (idxA 5 (g c_1 1) (g c_2 0) h_4 fun p_9 =>
 fldA 2 p_9 fun p_10 =>
 loadG 3 p_10 h_4 fun c_11 =>
 callS prog n_vref19_Nodes [(.agg [(g c_11 0), (g c_11 1), (g c_11 2)]), .e0] h_4 fun r_12 h_13 =>
 binA .lss (g c_2 1) (I 0) fun x_14 =>
 brA x_14 (retA (.tup [(.agg [(I 0), (I 0), .e0]), (I 2)]) h_13 Q) (lenA r_12 fun x_15 =>
 binA .geq (g c_2 1) x_15 fun x_16 =>
 brA x_16 (retA (.tup [(.agg [(I 0), (I 0), .e0]), (I 2)]) h_13 Q) (idxA 3 r_12 (g c_2 1) h_13 fun p_17 =>
 loadG 3 p_17 h_13 fun c_18 =>
 retA (.tup [(.agg [(g c_18 0), (g c_18 1), (g c_18 2)]), (I 0)]) h_13 Q)))))
def c_vref19_At : Cfg := ⟨tab, [], [], [], [], []⟩
theorem vref19_At_eq (a0 a1 : AV) (h : Heap) (Q : AV → Heap → Prop) : abody prog c_vref19_At f63 [a0, a1] h Q = vref19_At a0 a1 h Q := by kernel_rfl
theorem vref19_At_ok : fnB c_vref19_At f63 = true := by kernel_rfl
theorem vref19_At_call {a0 a1 : AV} {h : Heap} {Q : AV → Heap → Prop} (hk : vref19_At a0 a1 h Q) : ACalls prog n_vref19_At [a0, a1] h Q := contract (cf := c_vref19_At) tab_ok prog_mixed func63 vref19_At_ok (Eq.mpr (vref19_At_eq a0 a1 h Q) hk)
def vlaw19_alive (h : Heap) (Q : AV → Heap → Prop) : Prop :=
 callS prog n_vref03_Get [(S { data := #[115, 121, 109, 98, 111, 108, 32, 97, 32, 50, 10, 115, 121, 109, 98, 111, 108, 32, 98, 32, 49, 10, 115, 121, 109, 98, 111, 108, 32, 99, 32, 48, 10, 102, 117, 110, 32, 115, 32, 58, 32, 111, 32, 61, 32, 102, 32, 35, 99, 10, 102, 117, 110, 32, 102, 32, 58, 32, 111, 32, 62, 32, 111, 32, 61, 32, 35, 97, 32, 36, 48, 32, 40, 102, 32, 40, 35, 98, 32, 36, 48, 41, 41, 10] })] h fun r_1 h_2 =>
 tupA r_1 0 fun x_3 =>
 tupA r_1 1 fun x_4 =>
 aggA 2 x_3 fun c_5 =>
 callS prog n_flow_Flow [(.agg [(g c_5 0), (g c_5 1)])] h_2 fun r_6 h_7 =>
 tupA r_6 0 fun x_8 =>
 tupA r_6 1 fun x_9 =>
 oneA (I 1) <|
 oneA (I 3) <|
 callS prog n_flow_At [(.agg [(g c_5 0), (g c_5 1)]), (.agg [(I 1), (I 3)])] h_7 fun r_10 h_11 =>
 tupA r_10 0 fun x_12 =>
 tupA r_10 1 fun x_13 =>
 aggA 3 x_12 fun c_14 =>
 binA .eql x_9 (I 0) fun x_15 =>
 brA x_15 (binA .eql x_13 (I 0) fun x_16 =>
 brA x_16 (lenA x_8 fun x_17 =>
 binA .eql x_17 (I 2) fun x_18 =>
 brA x_18 (idxA 1 x_8 (I 1) h_11 fun p_19 =>
 loadV p_19 h_11 fun x_20 =>
 lenA x_20 fun x_21 =>
 binA .eql x_21 (I 1) fun x_22 =>
 brA x_22 (idxA 1 x_8 (I 1) h_11 fun p_23 =>
 loadV p_23 h_11 fun x_24 =>
 idxA 1 x_24 (I 0) h_11 fun p_25 =>
 loadV p_25 h_11 fun x_26 =>
 lenA x_26 fun x_27 =>
 binA .eql x_27 (I 2) fun x_28 =>
 brA x_28 (idxA 1 x_8 (I 1) h_11 fun p_29 =>
 loadV p_29 h_11 fun x_30 =>
 idxA 1 x_30 (I 0) h_11 fun p_31 =>
 loadV p_31 h_11 fun x_32 =>
 idxA 2 x_32 (I 1) h_11 fun p_33 =>
 loadG 2 p_33 h_11 fun c_34 =>
 oneA (I 1) <|
 oneA (I 3) <|
 eqA [(.int .i64), (.int .i64)] false (.agg [(g c_34 0), (g c_34 1)]) (.agg [(I 1), (I 3)]) fun x_35 =>
 brA x_35 (binA .eql (g c_14 0) (I 2) fun x_36 =>
 brA x_36 (binA .eql (g c_14 1) (I 1) fun x_37 =>
 retA x_37 h_11 Q) (retA (B false) h_11 Q)) (retA (B false) h_11 Q)) (retA (B false) h_11 Q)) (retA (B false) h_11 Q)) (retA (B false) h_11 Q)) (retA (B false) h_11 Q)) (retA (B false) h_11 Q)
def c_vlaw19_alive : Cfg := ⟨tab, [], [], [], [], []⟩
theorem vlaw19_alive_eq (h : Heap) (Q : AV → Heap → Prop) : abody prog c_vlaw19_alive f19 [] h Q = vlaw19_alive h Q := by kernel_rfl
theorem vlaw19_alive_ok : fnB c_vlaw19_alive f19 = true := by kernel_rfl
theorem vlaw19_alive_call {h : Heap} {Q : AV → Heap → Prop} (hk : vlaw19_alive h Q) : ACalls prog n_vlaw19_alive [] h Q := contract (cf := c_vlaw19_alive) tab_ok prog_mixed func19 vlaw19_alive_ok (Eq.mpr (vlaw19_alive_eq h Q) hk)
end Am
