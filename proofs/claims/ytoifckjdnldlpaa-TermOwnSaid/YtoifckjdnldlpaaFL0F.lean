/- Short texts of functions, made by program; each with its contract's rule. -/
import Derived.Test.YtoifckjdnldlpaaF0F
set_option linter.unusedVariables false
set_option linter.unusedSimpArgs false
namespace Am
open Go Go.Proofs.Try
def vlaw02_TermFree (a0 : AV) (h : Heap) (Q : AV → Heap → Prop) : Prop :=
 aggA 3 a0 fun c_1 =>
 callS prog n_vlaw02_different [(.agg [(g c_1 0), (g c_1 1), (g c_1 2)])] h fun r_2 h_3 =>
 brA r_2 (callS prog n_vlaw02_alive [] h_3 fun r_4 h_5 =>
 retA r_4 h_5 Q) (callS prog n_term_Free [(.agg [(g c_1 0), (g c_1 1), (g c_1 2)])] h_3 fun r_6 h_7 =>
 tupA r_6 0 fun x_8 =>
 tupA r_6 1 fun x_9 =>
 callS prog n_vref02_Free [(.agg [(g c_1 0), (g c_1 1), (g c_1 2)])] h_7 fun r_10 h_11 =>
 tupA r_10 0 fun x_12 =>
 tupA r_10 1 fun x_13 =>
 binA .eql x_9 x_13 fun x_14 =>
 brA x_14 (callS prog n_vlaw02_ints [x_8, x_12] h_11 fun r_15 h_16 =>
 brA r_15 (callS prog n_vlaw02_alive [] h_16 fun r_17 h_18 =>
 retA r_17 h_18 Q) (retA (B false) h_16 Q)) (retA (B false) h_11 Q))
def c_vlaw02_TermFree : Cfg := ⟨tab, [], [], [], [], []⟩
theorem vlaw02_TermFree_eq (a0 : AV) (h : Heap) (Q : AV → Heap → Prop) : abody prog c_vlaw02_TermFree f17 [a0] h Q = vlaw02_TermFree a0 h Q := by kernel_rfl
theorem vlaw02_TermFree_ok : fnB c_vlaw02_TermFree f17 = true := by kernel_rfl
theorem vlaw02_TermFree_call {a0 : AV} {h : Heap} {Q : AV → Heap → Prop} (hk : vlaw02_TermFree a0 h Q) : ACalls prog n_vlaw02_TermFree [a0] h Q := contract (cf := c_vlaw02_TermFree) tab_ok prog_mixed func17 vlaw02_TermFree_ok (Eq.mpr (vlaw02_TermFree_eq a0 h Q) hk)
def vlaw02_TermSelf (a0 : AV) (h : Heap) (Q : AV → Heap → Prop) : Prop :=
 aggA 3 a0 fun c_1 =>
 callS prog n_term_Free [(.agg [(g c_1 0), (g c_1 1), (g c_1 2)])] h fun r_2 h_3 =>
 tupA r_2 0 fun x_4 =>
 tupA r_2 1 fun x_5 =>
 binA .neq x_5 (I 0) fun x_6 =>
 brA x_6 (callS prog n_vlaw02_alive [] h_3 fun r_7 h_8 =>
 retA r_7 h_8 Q) (lenA x_4 fun x_9 =>
 binA .gtr x_9 (I 0) fun x_10 =>
 brA x_10 (lenA x_4 fun x_11 =>
 binA .sub x_11 (I 1) fun x_12 =>
 idxA 1 x_4 x_12 h_3 fun p_13 =>
 loadV p_13 h_3 fun x_14 =>
 binA .geq x_14 (I 1000) fun x_15 =>
 brA x_15 (callS prog n_vlaw02_alive [] h_3 fun r_16 h_17 =>
 retA r_16 h_17 Q) (loopS (fun s_18 h_19 K_20 =>
 binA .lss (g s_18 1) (I 1000) fun x_21 =>
 brA x_21 (callS prog n_vlaw02_variable [(g s_18 1), .e0] h_19 fun r_22 h_23 =>
 aggA 3 r_22 fun c_24 =>
 appA 3 40 (g s_18 0) (.rs 3 [[(g c_24 0), (g c_24 1), (g c_24 2)]]) h_23 fun x_25 h_26 =>
 binA .add (g s_18 1) (I 1) fun x_27 =>
 K_20 [x_25, x_27] h_26) (callS prog n_term_Subst [(.agg [(g c_1 0), (g c_1 1), (g c_1 2)]), (g s_18 0)] h_19 fun r_28 h_29 =>
 tupA r_28 0 fun x_30 =>
 tupA r_28 1 fun x_31 =>
 aggA 3 x_30 fun c_32 =>
 binA .eql x_31 (I 0) fun x_33 =>
 brA x_33 (callS prog n_term_Same [(.agg [(g c_1 0), (g c_1 1), (g c_1 2)]), (.agg [(g c_32 0), (g c_32 1), (g c_32 2)])] h_29 fun r_34 h_35 =>
 brA r_34 (callS prog n_vlaw02_alive [] h_35 fun r_36 h_37 =>
 retA r_36 h_37 Q) (retA (B false) h_35 Q)) (retA (B false) h_29 Q))) [.e0, (I 0)] h_3)) (loopS (fun s_38 h_39 K_40 =>
 binA .lss (g s_38 1) (I 1000) fun x_41 =>
 brA x_41 (callS prog n_vlaw02_variable [(g s_38 1), .e0] h_39 fun r_42 h_43 =>
 aggA 3 r_42 fun c_44 =>
 appA 3 40 (g s_38 0) (.rs 3 [[(g c_44 0), (g c_44 1), (g c_44 2)]]) h_43 fun x_45 h_46 =>
 binA .add (g s_38 1) (I 1) fun x_47 =>
 K_40 [x_45, x_47] h_46) (callS prog n_term_Subst [(.agg [(g c_1 0), (g c_1 1), (g c_1 2)]), (g s_38 0)] h_39 fun r_48 h_49 =>
 tupA r_48 0 fun x_50 =>
 tupA r_48 1 fun x_51 =>
 aggA 3 x_50 fun c_52 =>
 binA .eql x_51 (I 0) fun x_53 =>
 brA x_53 (callS prog n_term_Same [(.agg [(g c_1 0), (g c_1 1), (g c_1 2)]), (.agg [(g c_52 0), (g c_52 1), (g c_52 2)])] h_49 fun r_54 h_55 =>
 brA r_54 (callS prog n_vlaw02_alive [] h_55 fun r_56 h_57 =>
 retA r_56 h_57 Q) (retA (B false) h_55 Q)) (retA (B false) h_49 Q))) [.e0, (I 0)] h_3))
def c_vlaw02_TermSelf : Cfg := ⟨tab, [], [(6, ⟨[5, 31], [], [5, 6, 31, 32, 33, 34, 35, 36, 37, 38, 39]⟩)], [], [], []⟩
theorem vlaw02_TermSelf_eq (a0 : AV) (h : Heap) (Q : AV → Heap → Prop) : abody prog c_vlaw02_TermSelf f18 [a0] h Q = vlaw02_TermSelf a0 h Q := by kernel_rfl
theorem vlaw02_TermSelf_ok : fnB c_vlaw02_TermSelf f18 = true := by kernel_rfl
theorem vlaw02_TermSelf_call {a0 : AV} {h : Heap} {Q : AV → Heap → Prop} (hk : vlaw02_TermSelf a0 h Q) : ACalls prog n_vlaw02_TermSelf [a0] h Q := contract (cf := c_vlaw02_TermSelf) tab_ok prog_mixed func18 vlaw02_TermSelf_ok (Eq.mpr (vlaw02_TermSelf_eq a0 h Q) hk)
def vlaw02_TermOwn (a0 a1 a2 : AV) (h : Heap) (Q : AV → Heap → Prop) : Prop :=
 aggA 3 a0 fun c_1 =>
 aggA 3 a1 fun c_2 =>
 oneA a2 <|
 lenA a2 fun x_3 =>
 binA .gtr x_3 (I 20) fun x_4 =>
 brA x_4 (callS prog n_vlaw02_alive [] h fun r_5 h_6 =>
 retA r_5 h_6 Q) (callS prog n_vref02_Nodes [(.agg [(g c_2 0), (g c_2 1), (g c_2 2)]), (I 1000)] h fun r_7 h_8 =>
 binA .gtr r_7 (I 1000) fun x_9 =>
 brA x_9 (callS prog n_vlaw02_alive [] h_8 fun r_10 h_11 =>
 retA r_10 h_11 Q) (callS prog n_vref02_Nodes [(.agg [(I 0), (I 0), a2]), (I 1000)] h_8 fun r_12 h_13 =>
 binA .gtr r_12 (I 1000) fun x_14 =>
 brA x_14 (callS prog n_vlaw02_alive [] h_13 fun r_15 h_16 =>
 retA r_15 h_16 Q) (callS prog n_vref02_Is [(.agg [(g c_1 0), (g c_1 1), (g c_1 2)])] h_13 fun r_17 h_18 =>
 notA r_17 fun x_19 =>
 brA x_19 (callS prog n_vlaw02_alive [] h_18 fun r_20 h_21 =>
 retA r_20 h_21 Q) (callS prog n_vref02_Copy [(.agg [(g c_2 0), (g c_2 1), (g c_2 2)])] h_18 fun r_22 h_23 =>
 aggA 3 r_22 fun c_24 =>
 callS prog n_vref02_Copy [(.agg [(I 0), (I 0), a2])] h_23 fun r_25 h_26 =>
 aggA 3 r_25 fun c_27 =>
 oneA (g c_1 2) <|
 callS prog n_vref01_Copy [(.agg [(g c_1 2)])] h_26 fun r_28 h_29 =>
 aggA 1 r_28 fun c_30 =>
 oneA (g c_1 1) <|
 callS prog n_vref01_Copy [(.agg [(g c_1 1)])] h_29 fun r_31 h_32 =>
 aggA 1 r_31 fun c_33 =>
 callS prog n_vlaw02_given [(.agg [(g c_1 0), (g c_1 1), (g c_1 2)])] h_32 fun r_34 h_35 =>
 callS prog n_term_Sort [r_34, (.agg [(g c_2 0), (g c_2 1), (g c_2 2)])] h_35 fun r_36 h_37 =>
 tupA r_36 0 fun x_38 =>
 tupA r_36 1 fun x_39 =>
 aggA 1 x_38 fun c_40 =>
 lenA (g c_40 0) fun x_41 =>
 loopS (fun s_42 h_43 K_44 =>
 binA .lss (g s_42 0) x_41 fun x_45 =>
 brA x_45 (idxA 1 (g c_40 0) (g s_42 0) h_43 fun p_46 =>
 fldA 0 p_46 fun p_47 =>
 loadV p_47 h_43 fun x_48 =>
 lenA x_48 fun x_49 =>
 binA .add x_49 (I 1) fun x_50 =>
 mkA 1 24 [.e0] x_50 x_50 h_43 fun x_51 h_52 =>
 oneA x_51 <|
 idxA 1 (g c_40 0) (g s_42 0) h_52 fun p_53 =>
 storeG p_53 [x_51] h_52 fun h_54 =>
 binA .add (g s_42 0) (I 1) fun x_55 =>
 K_44 [x_55] h_54) (callS prog n_term_Free [(.agg [(g c_2 0), (g c_2 1), (g c_2 2)])] h_43 fun r_56 h_57 =>
 callS prog n_term_Size [(.agg [(g c_2 0), (g c_2 1), (g c_2 2)])] h_57 fun r_58 h_59 =>
 callS prog n_term_Subst [(.agg [(g c_2 0), (g c_2 1), (g c_2 2)]), a2] h_59 fun r_60 h_61 =>
 tupA r_60 0 fun x_62 =>
 tupA r_60 1 fun x_63 =>
 aggA 3 x_62 fun c_64 =>
 callS prog n_vlaw02_turn [(g c_64 2)] h_61 fun r_65 h_66 =>
 callS prog n_term_Apply [(.agg [(g c_2 0), (g c_2 1), (g c_2 2)]), a2] h_66 fun r_67 h_68 =>
 tupA r_67 0 fun x_69 =>
 tupA r_67 1 fun x_70 =>
 aggA 3 x_69 fun c_71 =>
 callS prog n_vlaw02_turn [(g c_71 2)] h_68 fun r_72 h_73 =>
 callS prog n_vref02_Equal [(.agg [(g c_2 0), (g c_2 1), (g c_2 2)]), (.agg [(g c_24 0), (g c_24 1), (g c_24 2)])] h_73 fun r_74 h_75 =>
 brA r_74 (callS prog n_vref02_Equal [(.agg [(I 0), (I 0), a2]), (.agg [(g c_27 0), (g c_27 1), (g c_27 2)])] h_75 fun r_76 h_77 =>
 brA r_76 (oneA (g c_1 2) <|
 callS prog n_vref01_Equal [(.agg [(g c_1 2)]), (.agg [(g c_30 0)])] h_77 fun r_78 h_79 =>
 brA r_78 (oneA (g c_1 1) <|
 callS prog n_vref01_Equal [(.agg [(g c_1 1)]), (.agg [(g c_33 0)])] h_79 fun r_80 h_81 =>
 brA r_80 (callS prog n_vlaw02_alive [] h_81 fun r_82 h_83 =>
 retA r_82 h_83 Q) (retA (B false) h_81 Q)) (retA (B false) h_79 Q)) (retA (B false) h_77 Q)) (retA (B false) h_75 Q))) [(I 0)] h_37))))
def c_vlaw02_TermOwn : Cfg := ⟨tab, [], [(10, ⟨[62], [], [14, 62, 63, 64, 65, 66, 67, 68, 69, 70, 71, 72, 73, 74, 75, 76, 77, 78, 79]⟩)], [(8, [7, 0, 2, 1, 3, 4, 5, 6, 8, 9]), (12, [0, 1, 2, 3, 4, 5, 6, 7, 8, 9, 10, 11, 12, 13, 14])], [53, 69, 71, 73, 78], []⟩
theorem vlaw02_TermOwn_eq (a0 a1 a2 : AV) (h : Heap) (Q : AV → Heap → Prop) : abody prog c_vlaw02_TermOwn f19 [a0, a1, a2] h Q = vlaw02_TermOwn a0 a1 a2 h Q := by kernel_rfl
theorem vlaw02_TermOwn_ok : fnB c_vlaw02_TermOwn f19 = true := by kernel_rfl
theorem vlaw02_TermOwn_call {a0 a1 a2 : AV} {h : Heap} {Q : AV → Heap → Prop} (hk : vlaw02_TermOwn a0 a1 a2 h Q) : ACalls prog n_vlaw02_TermOwn [a0, a1, a2] h Q := contract (cf := c_vlaw02_TermOwn) tab_ok prog_mixed func19 vlaw02_TermOwn_ok (Eq.mpr (vlaw02_TermOwn_eq a0 a1 a2 h Q) hk)
end Am
