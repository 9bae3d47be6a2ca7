/- Short texts of functions, made by program; each with its contract's rule. -/
import Derived.Test.YtoifckjdnldlpaaGreatZG0
set_option linter.unusedVariables false
set_option linter.unusedSimpArgs false
namespace Am
open Go Go.Proofs.Tryz
def vlaw19_FlowOwn_k0 (a0 a1 a2 : AV) (c_1 : List AV) (c_2 : List AV) (c_3 : List AV) (k7 : AV) (k8 : AV) (hk : Heap) (Q : AV → Heap → Prop) : Prop :=
 callS prog n_flow_Reached [(.agg [(g c_1 0), (g c_1 1)])] hk fun r_30 h_31 =>
 callS prog n_flow_Flow [(.agg [(g c_1 0), (g c_1 1)])] h_31 fun r_32 h_33 =>
 callS prog n_flow_Heads [(.agg [(g c_1 0), (g c_1 1)]), (.agg [(g c_2 0), (g c_2 1)])] h_33 fun r_34 h_35 =>
 callS prog n_flow_Comes [(.agg [(g c_1 0), (g c_1 1)]), (g c_2 0), (g c_2 1), (.agg [(g c_3 0), (g c_3 1), (g c_3 2)])] h_35 fun r_36 h_37 =>
 callS prog n_flow_At [(.agg [(g c_1 0), (g c_1 1)]), (.agg [(g c_2 0), (g c_2 1)])] h_37 fun r_38 h_39 =>
 tupA r_38 0 fun x_40 =>
 tupA r_38 1 fun x_41 =>
 aggA 3 x_40 fun c_42 =>
 binA .eql x_41 (I 0) fun x_43 =>
 brA x_43 (lenA (g c_42 2) fun x_44 =>
 loopS (fun s_45 h_46 K_47 =>
 binA .lss (g s_45 0) x_44 fun x_48 =>
 brA x_48 (oneA (I (-1)) <|
 idxA 3 (g c_42 2) (g s_45 0) h_46 fun p_49 =>
 storeG p_49 [(I (-1)), (I 0), .e0] h_46 fun h_50 =>
 binA .add (g s_45 0) (I 1) fun x_51 =>
 K_47 [x_51] h_50) (loadG 2 k7 h_46 fun c_52 =>
 callS prog n_vref03_Equal [(.agg [(g c_1 0), (g c_1 1)]), (.agg [(g c_52 0), (g c_52 1)])] h_46 fun r_53 h_54 =>
 brA r_53 (loadG 3 k8 h_54 fun c_55 =>
 callS prog n_vref02_Equal [(.agg [(g c_3 0), (g c_3 1), (g c_3 2)]), (.agg [(g c_55 0), (g c_55 1), (g c_55 2)])] h_54 fun r_56 h_57 =>
 brA r_56 (callS prog n_vlaw19_alive [] h_57 fun r_58 h_59 =>
 retA r_58 h_59 Q) (retA (B false) h_57 Q)) (retA (B false) h_54 Q))) [(I 0)] h_39) (loadG 2 k7 h_39 fun c_60 =>
 callS prog n_vref03_Equal [(.agg [(g c_1 0), (g c_1 1)]), (.agg [(g c_60 0), (g c_60 1)])] h_39 fun r_61 h_62 =>
 brA r_61 (loadG 3 k8 h_62 fun c_63 =>
 callS prog n_vref02_Equal [(.agg [(g c_3 0), (g c_3 1), (g c_3 2)]), (.agg [(g c_63 0), (g c_63 1), (g c_63 2)])] h_62 fun r_64 h_65 =>
 brA r_64 (callS prog n_vlaw19_alive [] h_65 fun r_66 h_67 =>
 retA r_66 h_67 Q) (retA (B false) h_65 Q)) (retA (B false) h_62 Q))
def vlaw19_FlowOwn (a0 a1 a2 : AV) (h : Heap) (Q : AV → Heap → Prop) : Prop :=
 aggA 2 a0 fun c_1 =>
 aggA 2 a1 fun c_2 =>
 aggA 3 a2 fun c_3 =>
 callS prog n_vlaw19_heavy [(.agg [(g c_1 0), (g c_1 1)])] h fun r_4 h_5 =>
 brA r_4 (callS prog n_vlaw19_alive [] h_5 fun r_6 h_7 =>
 retA r_6 h_7 Q) (callS prog n_vref03_Is [(.agg [(g c_1 0), (g c_1 1)])] h_5 fun r_8 h_9 =>
 notA r_8 fun x_10 =>
 brA x_10 (callS prog n_vlaw19_alive [] h_9 fun r_11 h_12 =>
 retA r_11 h_12 Q) (callS prog n_vref02_Nodes [(.agg [(g c_3 0), (g c_3 1), (g c_3 2)]), (I 3000)] h_9 fun r_13 h_14 =>
 binA .gtr r_13 (I 3000) fun x_15 =>
 brA x_15 (callS prog n_vlaw19_alive [] h_14 fun r_16 h_17 =>
 retA r_16 h_17 Q) ((callS prog n_vref03_Copy [(.agg [(g c_1 0), (g c_1 1)])] h_14 fun r_18 h_19 =>
 (callS prog n_vref02_Copy [(.agg [(g c_3 0), (g c_3 1), (g c_3 2)])] h_19 fun r_20 h_21 =>
 (newA 2 [.e0, .e0] h_21 fun p_22 h_23 =>
 (newA 3 [(I 0), (I 0), .e0] h_23 fun p_24 h_25 =>
 (aggA 2 r_18 fun c_26 =>
 storeG p_22 [(g c_26 0), (g c_26 1)] h_25 fun h_27 =>
 (aggA 3 r_20 fun c_28 =>
 storeG p_24 [(g c_28 0), (g c_28 1), (g c_28 2)] h_27 fun h_29 =>
 vlaw19_FlowOwn_k0 a0 a1 a2 c_1 c_2 c_3 p_22 p_24 h_29 Q) ∧
 True) ∧
 True) ∧
 True) ∧
 (newA 3 [(I 0), (I 0), .e0] h_21 fun p_68 h_69 =>
 (newA 2 [.e0, .e0] h_69 fun p_70 h_71 =>
 (aggA 2 r_18 fun c_72 =>
 storeG p_70 [(g c_72 0), (g c_72 1)] h_71 fun h_73 =>
 (aggA 3 r_20 fun c_74 =>
 storeG p_68 [(g c_74 0), (g c_74 1), (g c_74 2)] h_73 fun h_75 =>
 vlaw19_FlowOwn_k0 a0 a1 a2 c_1 c_2 c_3 p_70 p_68 h_75 Q) ∧
 True) ∧
 True) ∧
 True) ∧
 True) ∧
 (newA 2 [.e0, .e0] h_19 fun p_76 h_77 =>
 (callS prog n_vref02_Copy [(.agg [(g c_3 0), (g c_3 1), (g c_3 2)])] h_77 fun r_78 h_79 =>
 (newA 3 [(I 0), (I 0), .e0] h_79 fun p_80 h_81 =>
 (aggA 2 r_18 fun c_82 =>
 storeG p_76 [(g c_82 0), (g c_82 1)] h_81 fun h_83 =>
 (aggA 3 r_78 fun c_84 =>
 storeG p_80 [(g c_84 0), (g c_84 1), (g c_84 2)] h_83 fun h_85 =>
 vlaw19_FlowOwn_k0 a0 a1 a2 c_1 c_2 c_3 p_76 p_80 h_85 Q) ∧
 True) ∧
 True) ∧
 True) ∧
 (newA 3 [(I 0), (I 0), .e0] h_77 fun p_86 h_87 =>
 (callS prog n_vref02_Copy [(.agg [(g c_3 0), (g c_3 1), (g c_3 2)])] h_87 fun r_88 h_89 =>
 (aggA 2 r_18 fun c_90 =>
 storeG p_76 [(g c_90 0), (g c_90 1)] h_89 fun h_91 =>
 (aggA 3 r_88 fun c_92 =>
 storeG p_86 [(g c_92 0), (g c_92 1), (g c_92 2)] h_91 fun h_93 =>
 vlaw19_FlowOwn_k0 a0 a1 a2 c_1 c_2 c_3 p_76 p_86 h_93 Q) ∧
 True) ∧
 True) ∧
 True) ∧
 True) ∧
 (newA 3 [(I 0), (I 0), .e0] h_19 fun p_94 h_95 =>
 (callS prog n_vref02_Copy [(.agg [(g c_3 0), (g c_3 1), (g c_3 2)])] h_95 fun r_96 h_97 =>
 (newA 2 [.e0, .e0] h_97 fun p_98 h_99 =>
 (aggA 2 r_18 fun c_100 =>
 storeG p_98 [(g c_100 0), (g c_100 1)] h_99 fun h_101 =>
 (aggA 3 r_96 fun c_102 =>
 storeG p_94 [(g c_102 0), (g c_102 1), (g c_102 2)] h_101 fun h_103 =>
 vlaw19_FlowOwn_k0 a0 a1 a2 c_1 c_2 c_3 p_98 p_94 h_103 Q) ∧
 True) ∧
 True) ∧
 True) ∧
 (newA 2 [.e0, .e0] h_95 fun p_104 h_105 =>
 (callS prog n_vref02_Copy [(.agg [(g c_3 0), (g c_3 1), (g c_3 2)])] h_105 fun r_106 h_107 =>
 (aggA 2 r_18 fun c_108 =>
 storeG p_104 [(g c_108 0), (g c_108 1)] h_107 fun h_109 =>
 (aggA 3 r_106 fun c_110 =>
 storeG p_94 [(g c_110 0), (g c_110 1), (g c_110 2)] h_109 fun h_111 =>
 vlaw19_FlowOwn_k0 a0 a1 a2 c_1 c_2 c_3 p_104 p_94 h_111 Q) ∧
 True) ∧
 True) ∧
 True) ∧
 True) ∧
 True) ∧
 (newA 2 [.e0, .e0] h_14 fun p_112 h_113 =>
 (callS prog n_vref03_Copy [(.agg [(g c_1 0), (g c_1 1)])] h_113 fun r_114 h_115 =>
 (callS prog n_vref02_Copy [(.agg [(g c_3 0), (g c_3 1), (g c_3 2)])] h_115 fun r_116 h_117 =>
 (newA 3 [(I 0), (I 0), .e0] h_117 fun p_118 h_119 =>
 (aggA 2 r_114 fun c_120 =>
 storeG p_112 [(g c_120 0), (g c_120 1)] h_119 fun h_121 =>
 (aggA 3 r_116 fun c_122 =>
 storeG p_118 [(g c_122 0), (g c_122 1), (g c_122 2)] h_121 fun h_123 =>
 vlaw19_FlowOwn_k0 a0 a1 a2 c_1 c_2 c_3 p_112 p_118 h_123 Q) ∧
 True) ∧
 True) ∧
 True) ∧
 (newA 3 [(I 0), (I 0), .e0] h_115 fun p_124 h_125 =>
 (callS prog n_vref02_Copy [(.agg [(g c_3 0), (g c_3 1), (g c_3 2)])] h_125 fun r_126 h_127 =>
 (aggA 2 r_114 fun c_128 =>
 storeG p_112 [(g c_128 0), (g c_128 1)] h_127 fun h_129 =>
 (aggA 3 r_126 fun c_130 =>
 storeG p_124 [(g c_130 0), (g c_130 1), (g c_130 2)] h_129 fun h_131 =>
 vlaw19_FlowOwn_k0 a0 a1 a2 c_1 c_2 c_3 p_112 p_124 h_131 Q) ∧
 True) ∧
 True) ∧
 True) ∧
 True) ∧
 (newA 3 [(I 0), (I 0), .e0] h_113 fun p_132 h_133 =>
 (callS prog n_vref03_Copy [(.agg [(g c_1 0), (g c_1 1)])] h_133 fun r_134 h_135 =>
 (callS prog n_vref02_Copy [(.agg [(g c_3 0), (g c_3 1), (g c_3 2)])] h_135 fun r_136 h_137 =>
 (aggA 2 r_134 fun c_138 =>
 storeG p_112 [(g c_138 0), (g c_138 1)] h_137 fun h_139 =>
 (aggA 3 r_136 fun c_140 =>
 storeG p_132 [(g c_140 0), (g c_140 1), (g c_140 2)] h_139 fun h_141 =>
 vlaw19_FlowOwn_k0 a0 a1 a2 c_1 c_2 c_3 p_112 p_132 h_141 Q) ∧
 True) ∧
 True) ∧
 True) ∧
 True) ∧
 True) ∧
 (newA 3 [(I 0), (I 0), .e0] h_14 fun p_142 h_143 =>
 (callS prog n_vref03_Copy [(.agg [(g c_1 0), (g c_1 1)])] h_143 fun r_144 h_145 =>
 (callS prog n_vref02_Copy [(.agg [(g c_3 0), (g c_3 1), (g c_3 2)])] h_145 fun r_146 h_147 =>
 (newA 2 [.e0, .e0] h_147 fun p_148 h_149 =>
 (aggA 2 r_144 fun c_150 =>
 storeG p_148 [(g c_150 0), (g c_150 1)] h_149 fun h_151 =>
 (aggA 3 r_146 fun c_152 =>
 storeG p_142 [(g c_152 0), (g c_152 1), (g c_152 2)] h_151 fun h_153 =>
 vlaw19_FlowOwn_k0 a0 a1 a2 c_1 c_2 c_3 p_148 p_142 h_153 Q) ∧
 True) ∧
 True) ∧
 True) ∧
 (newA 2 [.e0, .e0] h_145 fun p_154 h_155 =>
 (callS prog n_vref02_Copy [(.agg [(g c_3 0), (g c_3 1), (g c_3 2)])] h_155 fun r_156 h_157 =>
 (aggA 2 r_144 fun c_158 =>
 storeG p_154 [(g c_158 0), (g c_158 1)] h_157 fun h_159 =>
 (aggA 3 r_156 fun c_160 =>
 storeG p_142 [(g c_160 0), (g c_160 1), (g c_160 2)] h_159 fun h_161 =>
 vlaw19_FlowOwn_k0 a0 a1 a2 c_1 c_2 c_3 p_154 p_142 h_161 Q) ∧
 True) ∧
 True) ∧
 True) ∧
 True) ∧
 (newA 2 [.e0, .e0] h_143 fun p_162 h_163 =>
 (callS prog n_vref03_Copy [(.agg [(g c_1 0), (g c_1 1)])] h_163 fun r_164 h_165 =>
 (callS prog n_vref02_Copy [(.agg [(g c_3 0), (g c_3 1), (g c_3 2)])] h_165 fun r_166 h_167 =>
 (aggA 2 r_164 fun c_168 =>
 storeG p_162 [(g c_168 0), (g c_168 1)] h_167 fun h_169 =>
 (aggA 3 r_166 fun c_170 =>
 storeG p_142 [(g c_170 0), (g c_170 1), (g c_170 2)] h_169 fun h_171 =>
 vlaw19_FlowOwn_k0 a0 a1 a2 c_1 c_2 c_3 p_162 p_142 h_171 Q) ∧
 True) ∧
 True) ∧
 True) ∧
 True) ∧
 True) ∧
 True)))
def c_vlaw19_FlowOwn : Cfg := ⟨tab, [7, 8], [(11, ⟨[54], [], [11, 54, 55, 56, 57, 58, 59, 60, 61, 62]⟩)], [(3, [0, 2, 8, 8, 1, 3, 4, 5, 6, 7])], [], []⟩
theorem vlaw19_FlowOwn_eq (a0 a1 a2 : AV) (h : Heap) (Q : AV → Heap → Prop) : abody prog c_vlaw19_FlowOwn f6 [a0, a1, a2] h Q = vlaw19_FlowOwn a0 a1 a2 h Q := by kernel_rfl
theorem vlaw19_FlowOwn_ok : fnB c_vlaw19_FlowOwn f6 = true := by kernel_rfl
theorem vlaw19_FlowOwn_call {a0 a1 a2 : AV} {h : Heap} {Q : AV → Heap → Prop} (hk : vlaw19_FlowOwn a0 a1 a2 h Q) : ACalls prog n_vlaw19_FlowOwn [a0, a1, a2] h Q := contract (cf := c_vlaw19_FlowOwn) tab_ok prog_mixed func6 vlaw19_FlowOwn_ok (Eq.mpr (vlaw19_FlowOwn_eq a0 a1 a2 h Q) hk)
end Am
