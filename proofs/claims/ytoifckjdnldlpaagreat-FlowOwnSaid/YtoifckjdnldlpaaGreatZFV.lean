/- Short texts of functions, made by program; each with its contract's rule. -/
import Derived.Test.YtoifckjdnldlpaaGreatZG0
set_option linter.unusedVariables false
set_option linter.unusedSimpArgs false
namespace Am
open Go Go.Proofs.Tryz
def vlaw19_heavy (a0 : AV) (h : Heap) (Q : AV → Heap → Prop) : Prop :=
 aggA 2 a0 fun c_1 =>
 callS prog n_vref03_Is [(.agg [(g c_1 0), (g c_1 1)])] h fun r_2 h_3 =>
 brA r_2 (callS prog n_vlaw19_small [(.agg [(g c_1 0), (g c_1 1)])] h_3 fun r_4 h_5 =>
 notA r_4 fun x_6 =>
 retA x_6 h_5 Q) (retA (B false) h_3 Q)
def c_vlaw19_heavy : Cfg := ⟨tab, [], [], [], [], []⟩
theorem vlaw19_heavy_eq (a0 : AV) (h : Heap) (Q : AV → Heap → Prop) : abody prog c_vlaw19_heavy f18 [a0] h Q = vlaw19_heavy a0 h Q := by kernel_rfl
theorem vlaw19_heavy_ok : fnB c_vlaw19_heavy f18 = true := by kernel_rfl
theorem vlaw19_heavy_call {a0 : AV} {h : Heap} {Q : AV → Heap → Prop} (hk : vlaw19_heavy a0 h Q) : ACalls prog n_vlaw19_heavy [a0] h Q := contract (cf := c_vlaw19_heavy) tab_ok prog_mixed func18 vlaw19_heavy_ok (Eq.mpr (vlaw19_heavy_eq a0 h Q) hk)
def vlaw19_small (a0 : AV) (h : Heap) (Q : AV → Heap → Prop) : Prop :=
 aggA 2 a0 fun c_1 =>
 lenA (g c_1 1) fun x_2 =>
 loopS (fun s_3 h_4 K_5 =>
 binA .lss (g s_3 1) x_2 fun x_6 =>
 brA x_6 (idxA 5 (g c_1 1) (g s_3 1) h_4 fun p_7 =>
 loadG 5 p_7 h_4 fun c_8 =>
 callS prog n_vref02_Nodes [(.agg [(g c_8 2), (g c_8 3), (g c_8 4)]), (I 400)] h_4 fun r_9 h_10 =>
 binA .add (g s_3 0) r_9 fun x_11 =>
 binA .add (g s_3 1) (I 1) fun x_12 =>
 K_5 [x_11, x_12] h_10) (binA .leq (g s_3 0) (I 150) fun x_13 =>
 retA x_13 h_4 Q)) [(I 0), (I 0)] h
def c_vlaw19_small : Cfg := ⟨tab, [], [(3, ⟨[3, 9], [], [3, 5, 9, 10, 11, 12, 13, 14, 15, 16, 17, 18]⟩)], [], [], []⟩
theorem vlaw19_small_eq (a0 : AV) (h : Heap) (Q : AV → Heap → Prop) : abody prog c_vlaw19_small f57 [a0] h Q = vlaw19_small a0 h Q := by kernel_rfl
theorem vlaw19_small_ok : fnB c_vlaw19_small f57 = true := by kernel_rfl
theorem vlaw19_small_call {a0 : AV} {h : Heap} {Q : AV → Heap → Prop} (hk : vlaw19_small a0 h Q) : ACalls prog n_vlaw19_small [a0] h Q := contract (cf := c_vlaw19_small) tab_ok prog_mixed func57 vlaw19_small_ok (Eq.mpr (vlaw19_small_eq a0 h Q) hk)
end Am
set_option linter.unusedVariables false
set_option linter.unusedSimpArgs false
namespace Am
open Go Go.Proofs.Tryz
def vref19_known (a0 : AV) (h : Heap) (Q : AV → Heap → Prop) : Prop :=
 aggA 2 a0 fun c_1 =>
 newA 5 [(g c_1 0), (g c_1 1), .e0, .e0, .e0] h fun p_2 h_3 =>
 lenA (g c_1 1) fun x_4 =>
 loopS (fun s_5 h_6 K_7 =>
 binA .lss (g s_5 0) x_4 fun x_8 =>
 brA x_8 (idxA 5 (g c_1 1) (g s_5 0) h_6 fun p_9 =>
 loadG 5 p_9 h_6 fun c_10 =>
 callS prog n_vref19_Nodes [(.agg [(g c_10 2), (g c_10 3), (g c_10 4)]), .e0] h_6 fun r_11 h_12 =>
 nilA p_2 <|
 fldA 2 p_2 fun p_13 =>
 loadV p_13 h_12 fun x_14 =>
 oneA r_11 <|
 appA 1 24 x_14 (.rs 1 [[r_11]]) h_12 fun x_15 h_16 =>
 nilA p_2 <|
 fldA 2 p_2 fun p_17 =>
 oneA x_15 <|
 storeG p_17 [x_15] h_16 fun h_18 =>
 nilA p_2 <|
 fldA 3 p_2 fun p_19 =>
 loadV p_19 h_18 fun x_20 =>
 lenA r_11 fun x_21 =>
 mkA 1 24 [.e0] x_21 x_21 h_18 fun x_22 h_23 =>
 (loadV p_19 h_23 fun x_39 =>
 TV.av x_39 = TV.av x_20) ∧
 (oneA x_22 <|
 appA 1 24 x_20 (.rs 1 [[x_22]]) h_23 fun x_24 h_25 =>
 nilA p_2 <|
 fldA 3 p_2 fun p_26 =>
 oneA x_24 <|
 storeG p_26 [x_24] h_25 fun h_27 =>
 nilA p_2 <|
 fldA 4 p_2 fun p_28 =>
 loadV p_28 h_27 fun x_29 =>
 lenA (g c_10 1) fun x_30 =>
 mkA 1 24 [.e0] x_30 x_30 h_27 fun x_31 h_32 =>
 (loadV p_28 h_32 fun x_38 =>
 TV.av x_38 = TV.av x_29) ∧
 (oneA x_31 <|
 appA 1 24 x_29 (.rs 1 [[x_31]]) h_32 fun x_33 h_34 =>
 nilA p_2 <|
 fldA 4 p_2 fun p_35 =>
 oneA x_33 <|
 storeG p_35 [x_33] h_34 fun h_36 =>
 binA .add (g s_5 0) (I 1) fun x_37 =>
 K_7 [x_37] h_36))) (callS prog n_vref19_Reach [(.agg [(g c_1 0), (g c_1 1)])] h_6 fun r_40 h_41 =>
 loopS (fun s_42 h_43 K_44 =>
 callS prog n_vref19_state_size [p_2] h_43 fun r_45 h_46 =>
 binA .neq (g s_42 0) r_45 fun x_47 =>
 brA x_47 (callS prog n_vref19_state_size [p_2] h_46 fun r_48 h_49 =>
 lenA (g c_1 1) fun x_50 =>
 loopS (fun s_51 h_52 K_53 =>
 binA .lss (g s_51 0) x_50 fun x_54 =>
 brA x_54 (nilA p_2 <|
 fldA 2 p_2 fun p_55 =>
 loadV p_55 h_52 fun x_56 =>
 idxA 1 x_56 (g s_51 0) h_52 fun p_57 =>
 loadV p_57 h_52 fun x_58 =>
 lenA x_58 fun x_59 =>
 loopS (fun s_60 h_61 K_62 =>
 binA .lss (g s_60 0) x_59 fun x_63 =>
 brA x_63 (callS prog n_vref19_state_look [p_2, (g s_51 0), (g s_60 0)] h_61 fun r_64 h_65 =>
 idxA 1 r_40 (g s_51 0) h_65 fun p_66 =>
 loadV p_66 h_65 fun x_67 =>
 brA x_67 (callS prog n_vref19_state_pass [p_2, (g s_51 0), (g s_60 0)] h_65 fun r_68 h_69 =>
 binA .add (g s_60 0) (I 1) fun x_70 =>
 K_62 [x_70] h_69) (binA .add (g s_60 0) (I 1) fun x_71 =>
 K_62 [x_71] h_65)) (binA .add (g s_51 0) (I 1) fun x_72 =>
 K_53 [x_72] h_61)) [(I 0)] h_52) (K_44 [r_48] h_52)) [(I 0)] h_49) (retA p_2 h_46 Q)) [(I (-1))] h_41)) [(I 0)] h_3
def c_vref19_known : Cfg := ⟨tab, [13], [(3, ⟨[17], [], [5, 6, 17, 18, 19, 20, 21, 22, 23, 24, 25, 26, 27, 28, 29, 30, 31, 32, 33, 34, 35, 36, 37, 38, 39, 40, 41, 42, 43, 44, 45, 46, 47, 48, 49, 50, 51, 52, 53, 54, 55, 56, 57, 58, 59, 60]⟩), (12, ⟨[8], [], [8, 9, 10, 63, 64, 65, 66, 67, 68, 69, 70, 71, 72, 73, 74, 75, 76, 77, 78, 79, 80, 81, 82, 83, 84, 85, 86, 87, 88, 89, 90, 91, 92, 93, 94, 95, 96, 97, 98, 99]⟩), (15, ⟨[72], [], [9, 10, 72, 73, 74, 75, 76, 77, 78, 79, 80, 81, 82, 83, 84, 85, 86, 87, 88, 89, 90, 91, 92, 93, 94, 95, 96, 97, 98, 99]⟩), (18, ⟨[83], [], [10, 83, 84, 85, 86, 87, 88, 89, 90, 91, 92, 93, 94, 95, 96, 97, 98]⟩)], [(7, [0, 1, 2, 3, 4, 5, 6, 7, 18, 8, 9, 10, 11, 12]), (8, [0, 1, 2, 3, 4, 5, 6, 7, 8, 9, 20, 10, 11, 12, 13, 14])], [38, 50, 53], []⟩
theorem vref19_known_eq (a0 : AV) (h : Heap) (Q : AV → Heap → Prop) : abody prog c_vref19_known f64 [a0] h Q = vref19_known a0 h Q := by kernel_rfl
theorem vref19_known_ok : fnB c_vref19_known f64 = true := by kernel_rfl
theorem vref19_known_call {a0 : AV} {h : Heap} {Q : AV → Heap → Prop} (hk : vref19_known a0 h Q) : ACalls prog n_vref19_known [a0] h Q := contract (cf := c_vref19_known) tab_ok prog_mixed func64 vref19_known_ok (Eq.mpr (vref19_known_eq a0 h Q) hk)
def vref19_state_places (a0 : AV) (h : Heap) (Q : AV → Heap → Prop) : Prop :=
 nilA a0 <|
 fldA 4 a0 fun p_1 =>
 loadV p_1 h fun x_2 =>
 lenA x_2 fun x_3 =>
 loopS (fun s_4 h_5 K_6 =>
 binA .lss (g s_4 1) x_3 fun x_7 =>
 brA x_7 (nilA a0 <|
 fldA 4 a0 fun p_8 =>
 loadV p_8 h_5 fun x_9 =>
 idxA 1 x_9 (g s_4 1) h_5 fun p_10 =>
 loadV p_10 h_5 fun x_11 =>
 lenA x_11 fun x_12 =>
 loopS (fun s_13 h_14 K_15 =>
 binA .lss (g s_13 1) x_12 fun x_16 =>
 brA x_16 (idxA 1 x_11 (g s_13 1) h_14 fun p_17 =>
 loadV p_17 h_14 fun x_18 =>
 lenA x_18 fun x_19 =>
 binA .add (g s_13 0) x_19 fun x_20 =>
 binA .add (g s_13 1) (I 1) fun x_21 =>
 K_15 [x_20, x_21] h_14) (binA .add (g s_4 1) (I 1) fun x_22 =>
 K_6 [(g s_13 0), x_22] h_14)) [(g s_4 0), (I 0)] h_5) (retA (g s_4 0) h_5 Q)) [(I 0), (I 0)] h
def c_vref19_state_places : Cfg := ⟨tab, [], [(3, ⟨[3, 12], [], [3, 4, 6, 12, 13, 14, 15, 16, 17, 18, 19, 20, 21, 22, 23, 24, 25, 26, 27, 28, 29, 30, 31, 32]⟩), (6, ⟨[3, 23], [], [3, 6, 23, 24, 25, 26, 27, 28, 29, 30, 31]⟩)], [], [], []⟩
theorem vref19_state_places_eq (a0 : AV) (h : Heap) (Q : AV → Heap → Prop) : abody prog c_vref19_state_places f65 [a0] h Q = vref19_state_places a0 h Q := by kernel_rfl
theorem vref19_state_places_ok : fnB c_vref19_state_places f65 = true := by kernel_rfl
theorem vref19_state_places_call {a0 : AV} {h : Heap} {Q : AV → Heap → Prop} (hk : vref19_state_places a0 h Q) : ACalls prog n_vref19_state_places [a0] h Q := contract (cf := c_vref19_state_places) tab_ok prog_mixed func65 vref19_state_places_ok (Eq.mpr (vref19_state_places_eq a0 h Q) hk)
def vref19_state_size (a0 : AV) (h : Heap) (Q : AV → Heap → Prop) : Prop :=
 nilA a0 <|
 fldA 2 a0 fun p_1 =>
 loadV p_1 h fun x_2 =>
 lenA x_2 fun x_3 =>
 loopS (fun s_4 h_5 K_6 =>
 binA .lss (g s_4 1) x_3 fun x_7 =>
 brA x_7 (nilA a0 <|
 fldA 3 a0 fun p_8 =>
 loadV p_8 h_5 fun x_9 =>
 idxA 1 x_9 (g s_4 1) h_5 fun p_10 =>
 loadV p_10 h_5 fun x_11 =>
 lenA x_11 fun x_12 =>
 loopS (fun s_13 h_14 K_15 =>
 binA .lss (g s_13 1) x_12 fun x_16 =>
 brA x_16 (idxA 1 x_11 (g s_13 1) h_14 fun p_17 =>
 loadV p_17 h_14 fun x_18 =>
 lenA x_18 fun x_19 =>
 binA .add (g s_13 0) x_19 fun x_20 =>
 binA .add (g s_13 1) (I 1) fun x_21 =>
 K_15 [x_20, x_21] h_14) (nilA a0 <|
 fldA 4 a0 fun p_22 =>
 loadV p_22 h_14 fun x_23 =>
 idxA 1 x_23 (g s_4 1) h_14 fun p_24 =>
 loadV p_24 h_14 fun x_25 =>
 lenA x_25 fun x_26 =>
 loopS (fun s_27 h_28 K_29 =>
 binA .lss (g s_27 1) x_26 fun x_30 =>
 brA x_30 (idxA 1 x_25 (g s_27 1) h_28 fun p_31 =>
 loadV p_31 h_28 fun x_32 =>
 lenA x_32 fun x_33 =>
 binA .add (g s_27 0) x_33 fun x_34 =>
 binA .add (g s_27 1) (I 1) fun x_35 =>
 K_29 [x_34, x_35] h_28) (binA .add (g s_4 1) (I 1) fun x_36 =>
 K_6 [(g s_27 0), x_36] h_28)) [(g s_13 0), (I 0)] h_14)) [(g s_4 0), (I 0)] h_5) (retA (g s_4 0) h_5 Q)) [(I 0), (I 0)] h
def c_vref19_state_size : Cfg := ⟨tab, [], [(3, ⟨[3, 14], [], [3, 4, 6, 8, 14, 15, 16, 17, 18, 19, 20, 21, 22, 23, 24, 25, 26, 27, 28, 29, 30, 31, 32, 33, 34, 35, 36, 37, 38, 39, 40, 41, 42, 43, 44, 45, 46, 47, 48, 49, 50, 51]⟩), (6, ⟨[3, 25], [], [3, 6, 25, 26, 27, 28, 29, 30, 31, 32, 33]⟩), (11, ⟨[3, 42], [], [3, 8, 42, 43, 44, 45, 46, 47, 48, 49, 50]⟩)], [], [], []⟩
theorem vref19_state_size_eq (a0 : AV) (h : Heap) (Q : AV → Heap → Prop) : abody prog c_vref19_state_size f116 [a0] h Q = vref19_state_size a0 h Q := by kernel_rfl
theorem vref19_state_size_ok : fnB c_vref19_state_size f116 = true := by kernel_rfl
theorem vref19_state_size_call {a0 : AV} {h : Heap} {Q : AV → Heap → Prop} (hk : vref19_state_size a0 h Q) : ACalls prog n_vref19_state_size [a0] h Q := contract (cf := c_vref19_state_size) tab_ok prog_mixed func116 vref19_state_size_ok (Eq.mpr (vref19_state_size_eq a0 h Q) hk)
def vref19_state_look (a0 a1 a2 : AV) (h : Heap) (Q : AV → Heap → Prop) : Prop :=
 nilA a0 <|
 fldA 2 a0 fun p_1 =>
 loadV p_1 h fun x_2 =>
 idxA 1 x_2 a1 h fun p_3 =>
 loadV p_3 h fun x_4 =>
 idxA 3 x_4 a2 h fun p_5 =>
 loadG 3 p_5 h fun c_6 =>
 binA .eql (g c_6 0) (I 1) fun x_7 =>
 brA x_7 (nilA a0 <|
 fldA 3 a0 fun p_8 =>
 loadV p_8 h fun x_9 =>
 idxA 1 x_9 a1 h fun p_10 =>
 loadV p_10 h fun x_11 =>
 nilA a0 <|
 fldA 3 a0 fun p_12 =>
 loadV p_12 h fun x_13 =>
 idxA 1 x_13 a1 h fun p_14 =>
 loadV p_14 h fun x_15 =>
 idxA 1 x_15 a2 h fun p_16 =>
 loadV p_16 h fun x_17 =>
 oneA (g c_6 1) <|
 oneA (I 0) <|
 callS prog n_vref19_addHead [x_17, (.agg [(g c_6 1), (I 0)])] h fun r_18 h_19 =>
 (loadV p_8 h_19 fun x_79 =>
 TV.av x_79 = TV.av x_9) ∧
 (idxA 1 x_9 a1 h_19 fun p_78 =>
 TV.av p_78 = TV.av p_10) ∧
 (loadV p_10 h_19 fun x_77 =>
 TV.av x_77 = TV.av x_11) ∧
 idxA 1 x_11 a2 h_19 fun p_20 =>
 oneA r_18 <|
 storeG p_20 [r_18] h_19 fun h_21 =>
 binA .eql (g c_6 0) (I 0) fun x_22 =>
 brA x_22 (nilA a0 <|
 fldA 4 a0 fun p_23 =>
 loadV p_23 h_21 fun x_24 =>
 idxA 1 x_24 a1 h_21 fun p_25 =>
 loadV p_25 h_21 fun x_26 =>
 idxA 1 x_26 (g c_6 1) h_21 fun p_27 =>
 loadV p_27 h_21 fun x_28 =>
 lenA x_28 fun x_29 =>
 loopS (fun s_30 h_31 K_32 =>
 binA .lss (g s_30 0) x_29 fun x_33 =>
 brA x_33 (idxA 2 x_28 (g s_30 0) h_31 fun p_34 =>
 loadG 2 p_34 h_31 fun c_35 =>
 nilA a0 <|
 fldA 3 a0 fun p_36 =>
 loadV p_36 h_31 fun x_37 =>
 idxA 1 x_37 (g c_35 0) h_31 fun p_38 =>
 loadV p_38 h_31 fun x_39 =>
 idxA 1 x_39 (g c_35 1) h_31 fun p_40 =>
 loadV p_40 h_31 fun x_41 =>
 lenA x_41 fun x_42 =>
 loopS (fun s_43 h_44 K_45 =>
 binA .lss (g s_43 0) x_42 fun x_46 =>
 brA x_46 (idxA 2 x_41 (g s_43 0) h_44 fun p_47 =>
 loadG 2 p_47 h_44 fun c_48 =>
 nilA a0 <|
 fldA 3 a0 fun p_49 =>
 loadV p_49 h_44 fun x_50 =>
 idxA 1 x_50 a1 h_44 fun p_51 =>
 loadV p_51 h_44 fun x_52 =>
 nilA a0 <|
 fldA 3 a0 fun p_53 =>
 loadV p_53 h_44 fun x_54 =>
 idxA 1 x_54 a1 h_44 fun p_55 =>
 loadV p_55 h_44 fun x_56 =>
 idxA 1 x_56 a2 h_44 fun p_57 =>
 loadV p_57 h_44 fun x_58 =>
 nilA a0 <|
 fldA 2 a0 fun p_59 =>
 loadV p_59 h_44 fun x_60 =>
 idxA 1 x_60 (g c_35 0) h_44 fun p_61 =>
 loadV p_61 h_44 fun x_62 =>
 idxA 3 x_62 (g c_35 1) h_44 fun p_63 =>
 fldA 2 p_63 fun p_64 =>
 loadV p_64 h_44 fun x_65 =>
 lenA x_65 fun x_66 =>
 binA .add (g c_48 1) x_66 fun x_67 =>
 oneA (g c_48 0) <|
 oneA x_67 <|
 callS prog n_vref19_addHead [x_58, (.agg [(g c_48 0), x_67])] h_44 fun r_68 h_69 =>
 (loadV p_49 h_69 fun x_75 =>
 TV.av x_75 = TV.av x_50) ∧
 (idxA 1 x_50 a1 h_69 fun p_74 =>
 TV.av p_74 = TV.av p_51) ∧
 (loadV p_51 h_69 fun x_73 =>
 TV.av x_73 = TV.av x_52) ∧
 idxA 1 x_52 a2 h_69 fun p_70 =>
 oneA r_68 <|
 storeG p_70 [r_68] h_69 fun h_71 =>
 binA .add (g s_43 0) (I 1) fun x_72 =>
 K_45 [x_72] h_71) (binA .add (g s_30 0) (I 1) fun x_76 =>
 K_32 [x_76] h_44)) [(I 0)] h_31) (retA (.tup []) h_31 Q)) [(I 0)] h_21) (retA (.tup []) h_21 Q)) (binA .eql (g c_6 0) (I 0) fun x_80 =>
 brA x_80 (nilA a0 <|
 fldA 4 a0 fun p_81 =>
 loadV p_81 h fun x_82 =>
 idxA 1 x_82 a1 h fun p_83 =>
 loadV p_83 h fun x_84 =>
 idxA 1 x_84 (g c_6 1) h fun p_85 =>
 loadV p_85 h fun x_86 =>
 lenA x_86 fun x_87 =>
 loopS (fun s_88 h_89 K_90 =>
 binA .lss (g s_88 0) x_87 fun x_91 =>
 brA x_91 (idxA 2 x_86 (g s_88 0) h_89 fun p_92 =>
 loadG 2 p_92 h_89 fun c_93 =>
 nilA a0 <|
 fldA 3 a0 fun p_94 =>
 loadV p_94 h_89 fun x_95 =>
 idxA 1 x_95 (g c_93 0) h_89 fun p_96 =>
 loadV p_96 h_89 fun x_97 =>
 idxA 1 x_97 (g c_93 1) h_89 fun p_98 =>
 loadV p_98 h_89 fun x_99 =>
 lenA x_99 fun x_100 =>
 loopS (fun s_101 h_102 K_103 =>
 binA .lss (g s_101 0) x_100 fun x_104 =>
 brA x_104 (idxA 2 x_99 (g s_101 0) h_102 fun p_105 =>
 loadG 2 p_105 h_102 fun c_106 =>
 nilA a0 <|
 fldA 3 a0 fun p_107 =>
 loadV p_107 h_102 fun x_108 =>
 idxA 1 x_108 a1 h_102 fun p_109 =>
 loadV p_109 h_102 fun x_110 =>
 nilA a0 <|
 fldA 3 a0 fun p_111 =>
 loadV p_111 h_102 fun x_112 =>
 idxA 1 x_112 a1 h_102 fun p_113 =>
 loadV p_113 h_102 fun x_114 =>
 idxA 1 x_114 a2 h_102 fun p_115 =>
 loadV p_115 h_102 fun x_116 =>
 nilA a0 <|
 fldA 2 a0 fun p_117 =>
 loadV p_117 h_102 fun x_118 =>
 idxA 1 x_118 (g c_93 0) h_102 fun p_119 =>
 loadV p_119 h_102 fun x_120 =>
 idxA 3 x_120 (g c_93 1) h_102 fun p_121 =>
 fldA 2 p_121 fun p_122 =>
 loadV p_122 h_102 fun x_123 =>
 lenA x_123 fun x_124 =>
 binA .add (g c_106 1) x_124 fun x_125 =>
 oneA (g c_106 0) <|
 oneA x_125 <|
 callS prog n_vref19_addHead [x_116, (.agg [(g c_106 0), x_125])] h_102 fun r_126 h_127 =>
 (loadV p_107 h_127 fun x_133 =>
 TV.av x_133 = TV.av x_108) ∧
 (idxA 1 x_108 a1 h_127 fun p_132 =>
 TV.av p_132 = TV.av p_109) ∧
 (loadV p_109 h_127 fun x_131 =>
 TV.av x_131 = TV.av x_110) ∧
 idxA 1 x_110 a2 h_127 fun p_128 =>
 oneA r_126 <|
 storeG p_128 [r_126] h_127 fun h_129 =>
 binA .add (g s_101 0) (I 1) fun x_130 =>
 K_103 [x_130] h_129) (binA .add (g s_88 0) (I 1) fun x_134 =>
 K_90 [x_134] h_102)) [(I 0)] h_89) (retA (.tup []) h_89 Q)) [(I 0)] h) (retA (.tup []) h Q))
def c_vref19_state_look : Cfg := ⟨tab, [], [(5, ⟨[62], [], [8, 10, 62, 63, 64, 65, 66, 67, 68, 69, 70, 71, 72, 73, 74, 75, 76, 77, 78, 79, 80, 81, 82, 83, 84, 85, 86, 87, 88, 89, 90, 91, 92, 93, 94, 95, 96, 97, 98, 99, 100, 101, 102, 103, 104, 105, 106, 107, 108, 109, 110, 111, 112, 113, 114, 115, 116, 117, 118, 119, 120, 121, 122, 123, 124]⟩), (8, ⟨[79], [], [10, 79, 80, 81, 82, 83, 84, 85, 86, 87, 88, 89, 90, 91, 92, 93, 94, 95, 96, 97, 98, 99, 100, 101, 102, 103, 104, 105, 106, 107, 108, 109, 110, 111, 112, 113, 114, 115, 116, 117, 118, 119, 120, 121, 122, 123]⟩)], [(2, [0, 1, 2, 3, 4, 5, 6, 7, 8, 9, 10, 11, 12, 13, 14, 15, 16, 17, 18, 19, 20, 21, 28, 30, 31, 22, 23]), (4, [0, 1, 2, 3, 4, 5, 6, 7, 8, 9, 10, 11, 12]), (7, [0, 1, 2, 3, 4, 5, 6, 7, 8, 9, 10, 11, 12, 13]), (10, [0, 1, 2, 3, 4, 5, 6, 7, 8, 9, 10, 11, 12, 13, 14, 15, 16, 17, 18, 19, 20, 21, 22, 23, 24, 25, 26, 27, 28, 29, 30, 31, 32, 33, 34, 35, 36, 37, 38, 45, 47, 48, 39, 40])], [27, 29, 30, 35, 37, 38, 40, 41, 43, 46, 53, 55, 56, 58, 59, 60, 69, 71, 72, 73, 75, 76, 77, 86, 88, 89, 94, 96, 97, 99, 100, 102, 104, 108, 110, 111, 112, 114, 115, 117, 122], []⟩
theorem vref19_state_look_eq (a0 a1 a2 : AV) (h : Heap) (Q : AV → Heap → Prop) : abody prog c_vref19_state_look f117 [a0, a1, a2] h Q = vref19_state_look a0 a1 a2 h Q := by kernel_rfl
theorem vref19_state_look_ok : fnB c_vref19_state_look f117 = true := by kernel_rfl
theorem vref19_state_look_call {a0 a1 a2 : AV} {h : Heap} {Q : AV → Heap → Prop} (hk : vref19_state_look a0 a1 a2 h Q) : ACalls prog n_vref19_state_look [a0, a1, a2] h Q := contract (cf := c_vref19_state_look) tab_ok prog_mixed func117 vref19_state_look_ok (Eq.mpr (vref19_state_look_eq a0 a1 a2 h Q) hk)
def vref19_state_pass (a0 a1 a2 : AV) (h : Heap) (Q : AV → Heap → Prop) : Prop :=
 nilA a0 <|
 fldA 2 a0 fun p_1 =>
 loadV p_1 h fun x_2 =>
 idxA 1 x_2 a1 h fun p_3 =>
 loadV p_3 h fun x_4 =>
 idxA 3 x_4 a2 h fun p_5 =>
 loadG 3 p_5 h fun c_6 =>
 nilA a0 <|
 fldA 3 a0 fun p_7 =>
 loadV p_7 h fun x_8 =>
 idxA 1 x_8 a1 h fun p_9 =>
 loadV p_9 h fun x_10 =>
 idxA 1 x_10 a2 h fun p_11 =>
 loadV p_11 h fun x_12 =>
 lenA x_12 fun x_13 =>
 loopS (fun s_14 h_15 K_16 =>
 binA .lss (g s_14 0) x_13 fun x_17 =>
 brA x_17 (idxA 2 x_12 (g s_14 0) h_15 fun p_18 =>
 loadG 2 p_18 h_15 fun c_19 =>
 binA .add a2 (I 1) fun x_20 =>
 lenA (g c_6 2) fun x_21 =>
 loopS (fun s_22 h_23 K_24 =>
 binA .lss (g s_22 1) x_21 fun x_25 =>
 brA x_25 (idxA 3 (g c_6 2) (g s_22 1) h_23 fun p_26 =>
 loadG 3 p_26 h_23 fun c_27 =>
 binA .add (g c_19 1) (g s_22 1) fun x_28 =>
 nilA a0 <|
 fldA 0 a0 fun p_29 =>
 fldA 1 p_29 fun p_30 =>
 loadV p_30 h_23 fun x_31 =>
 idxA 5 x_31 (g c_19 0) h_23 fun p_32 =>
 fldA 1 p_32 fun p_33 =>
 fldA 0 p_33 fun p_34 =>
 loadV p_34 h_23 fun x_35 =>
 lenA x_35 fun x_36 =>
 binA .lss x_28 x_36 fun x_37 =>
 brA x_37 (nilA a0 <|
 fldA 4 a0 fun p_38 =>
 loadV p_38 h_23 fun x_39 =>
 idxA 1 x_39 (g c_19 0) h_23 fun p_40 =>
 loadV p_40 h_23 fun x_41 =>
 binA .add (g c_19 1) (g s_22 1) fun x_42 =>
 nilA a0 <|
 fldA 4 a0 fun p_43 =>
 loadV p_43 h_23 fun x_44 =>
 idxA 1 x_44 (g c_19 0) h_23 fun p_45 =>
 loadV p_45 h_23 fun x_46 =>
 binA .add (g c_19 1) (g s_22 1) fun x_47 =>
 idxA 1 x_46 x_47 h_23 fun p_48 =>
 loadV p_48 h_23 fun x_49 =>
 oneA a1 <|
 oneA (g s_22 0) <|
 callS prog n_vref19_addPlace [x_49, (.agg [a1, (g s_22 0)])] h_23 fun r_50 h_51 =>
 (loadV p_38 h_51 fun x_60 =>
 TV.av x_60 = TV.av x_39) ∧
 (TV.av (g c_19 0) = TV.av (g c_19 0)) ∧
 (idxA 1 x_39 (g c_19 0) h_51 fun p_59 =>
 TV.av p_59 = TV.av p_40) ∧
 (loadV p_40 h_51 fun x_58 =>
 TV.av x_58 = TV.av x_41) ∧
 (TV.av (g c_19 1) = TV.av (g c_19 1)) ∧
 idxA 1 x_41 x_42 h_51 fun p_52 =>
 oneA r_50 <|
 storeG p_52 [r_50] h_51 fun h_53 =>
 callS prog n_vref02_Nodes [(.agg [(g c_27 0), (g c_27 1), (g c_27 2)]), (I 400)] h_53 fun r_54 h_55 =>
 binA .add (g s_22 0) r_54 fun x_56 =>
 binA .add (g s_22 1) (I 1) fun x_57 =>
 K_24 [x_56, x_57] h_55) (callS prog n_vref02_Nodes [(.agg [(g c_27 0), (g c_27 1), (g c_27 2)]), (I 400)] h_23 fun r_61 h_62 =>
 binA .add (g s_22 0) r_61 fun x_63 =>
 binA .add (g s_22 1) (I 1) fun x_64 =>
 K_24 [x_63, x_64] h_62)) (binA .add (g s_14 0) (I 1) fun x_65 =>
 K_16 [x_65] h_23)) [x_20, (I 0)] h_15) (retA (.tup []) h_15 Q)) [(I 0)] h
def c_vref19_state_pass : Cfg := ⟨tab, [], [(2, ⟨[33], [], [8, 9, 10, 11, 33, 34, 35, 36, 37, 38, 39, 40, 41, 42, 43, 44, 45, 46, 47, 48, 49, 50, 51, 52, 53, 54, 55, 56, 57, 58, 59, 60, 61, 62, 63, 64, 65, 66, 67, 68, 69, 70, 71, 72, 73, 74, 75, 76, 77, 78, 79, 80, 81, 82, 83, 84, 85, 86, 87, 88, 89, 90, 91, 92, 93, 94, 95, 96, 97, 98, 99, 100]⟩), (6, ⟨[9, 42], [], [9, 10, 11, 42, 43, 44, 45, 46, 47, 48, 49, 50, 51, 52, 53, 54, 55, 56, 57, 58, 59, 60, 61, 62, 63, 64, 65, 66, 67, 68, 69, 70, 71, 72, 73, 74, 75, 76, 77, 78, 79, 80, 81, 82, 83, 84, 85, 86, 87, 88, 89, 90, 91, 92, 93, 94, 95, 96, 97, 98, 99]⟩)], [(8, [0, 1, 2, 3, 4, 5, 6, 7, 8, 9, 10, 11, 12, 13, 14, 15, 16]), (9, [0, 1, 2, 3, 4, 5, 6, 7, 8, 9, 10, 11, 12, 13, 14, 15, 16, 17, 18, 19, 20, 21, 22, 23, 24, 25, 26, 27, 28, 29, 36, 38, 39, 40, 42, 30, 31])], [48, 55, 57, 58, 61, 67, 69, 70, 71, 73, 79, 81, 82, 83, 85, 88, 89, 94], []⟩
theorem vref19_state_pass_eq (a0 a1 a2 : AV) (h : Heap) (Q : AV → Heap → Prop) : abody prog c_vref19_state_pass f118 [a0, a1, a2] h Q = vref19_state_pass a0 a1 a2 h Q := by kernel_rfl
theorem vref19_state_pass_ok : fnB c_vref19_state_pass f118 = true := by kernel_rfl
theorem vref19_state_pass_call {a0 a1 a2 : AV} {h : Heap} {Q : AV → Heap → Prop} (hk : vref19_state_pass a0 a1 a2 h Q) : ACalls prog n_vref19_state_pass [a0, a1, a2] h Q := contract (cf := c_vref19_state_pass) tab_ok prog_mixed func118 vref19_state_pass_ok (Eq.mpr (vref19_state_pass_eq a0 a1 a2 h Q) hk)
def vref19_addHead (a0 a1 : AV) (h : Heap) (Q : AV → Heap → Prop) : Prop :=
 aggA 2 a1 fun c_1 =>
 lenA a0 fun x_2 =>
 loopS (fun s_3 h_4 K_5 =>
 binA .lss (g s_3 0) x_2 fun x_6 =>
 brA x_6 (idxA 2 a0 (g s_3 0) h_4 fun p_7 =>
 loadG 2 p_7 h_4 fun c_8 =>
 eqA [(.int .i64), (.int .i64)] false (.agg [(g c_8 0), (g c_8 1)]) (.agg [(g c_1 0), (g c_1 1)]) fun x_9 =>
 brA x_9 (retA a0 h_4 Q) (binA .add (g s_3 0) (I 1) fun x_10 =>
 K_5 [x_10] h_4)) (appA 2 16 a0 (.rs 2 [[(g c_1 0), (g c_1 1)]]) h_4 fun x_11 h_12 =>
 retA x_11 h_12 Q)) [(I 0)] h
def c_vref19_addHead : Cfg := ⟨tab, [], [(2, ⟨[9], [], [4, 6, 9, 10, 11, 12, 13, 14, 15, 16, 17]⟩)], [], [], []⟩
theorem vref19_addHead_eq (a0 a1 : AV) (h : Heap) (Q : AV → Heap → Prop) : abody prog c_vref19_addHead f168 [a0, a1] h Q = vref19_addHead a0 a1 h Q := by kernel_rfl
theorem vref19_addHead_ok : fnB c_vref19_addHead f168 = true := by kernel_rfl
theorem vref19_addHead_call {a0 a1 : AV} {h : Heap} {Q : AV → Heap → Prop} (hk : vref19_addHead a0 a1 h Q) : ACalls prog n_vref19_addHead [a0, a1] h Q := contract (cf := c_vref19_addHead) tab_ok prog_mixed func168 vref19_addHead_ok (Eq.mpr (vref19_addHead_eq a0 a1 h Q) hk)
def vref19_addPlace (a0 a1 : AV) (h : Heap) (Q : AV → Heap → Prop) : Prop :=
 aggA 2 a1 fun c_1 =>
 loopS (fun s_2 h_3 K_4 =>
 lenA a0 fun x_5 =>
 binA .lss (g s_2 0) x_5 fun x_6 =>
 brA x_6 (idxA 2 a0 (g s_2 0) h_3 fun p_7 =>
 loadG 2 p_7 h_3 fun c_8 =>
 callS prog n_vref19_before [(.agg [(g c_8 0), (g c_8 1)]), (.agg [(g c_1 0), (g c_1 1)])] h_3 fun r_9 h_10 =>
 brA r_9 (binA .add (g s_2 0) (I 1) fun x_11 =>
 K_4 [x_11] h_10) (lenA a0 fun x_12 =>
 binA .lss (g s_2 0) x_12 fun x_13 =>
 brA x_13 (idxA 2 a0 (g s_2 0) h_10 fun p_14 =>
 loadG 2 p_14 h_10 fun c_15 =>
 eqA [(.int .i64), (.int .i64)] false (.agg [(g c_15 0), (g c_15 1)]) (.agg [(g c_1 0), (g c_1 1)]) fun x_16 =>
 brA x_16 (retA a0 h_10 Q) (sliceA 2 a0 none (some (g s_2 0)) fun x_17 =>
 appA 2 16 .e0 x_17 h_10 fun x_18 h_19 =>
 appA 2 16 x_18 (.rs 2 [[(g c_1 0), (g c_1 1)]]) h_19 fun x_20 h_21 =>
 sliceA 2 a0 (some (g s_2 0)) none fun x_22 =>
 appA 2 16 x_20 x_22 h_21 fun x_23 h_24 =>
 retA x_23 h_24 Q)) (sliceA 2 a0 none (some (g s_2 0)) fun x_25 =>
 appA 2 16 .e0 x_25 h_10 fun x_26 h_27 =>
 appA 2 16 x_26 (.rs 2 [[(g c_1 0), (g c_1 1)]]) h_27 fun x_28 h_29 =>
 sliceA 2 a0 (some (g s_2 0)) none fun x_30 =>
 appA 2 16 x_28 x_30 h_29 fun x_31 h_32 =>
 retA x_31 h_32 Q))) (lenA a0 fun x_33 =>
 binA .lss (g s_2 0) x_33 fun x_34 =>
 brA x_34 (idxA 2 a0 (g s_2 0) h_3 fun p_35 =>
 loadG 2 p_35 h_3 fun c_36 =>
 eqA [(.int .i64), (.int .i64)] false (.agg [(g c_36 0), (g c_36 1)]) (.agg [(g c_1 0), (g c_1 1)]) fun x_37 =>
 brA x_37 (retA a0 h_3 Q) (sliceA 2 a0 none (some (g s_2 0)) fun x_38 =>
 appA 2 16 .e0 x_38 h_3 fun x_39 h_40 =>
 appA 2 16 x_39 (.rs 2 [[(g c_1 0), (g c_1 1)]]) h_40 fun x_41 h_42 =>
 sliceA 2 a0 (some (g s_2 0)) none fun x_43 =>
 appA 2 16 x_41 x_43 h_42 fun x_44 h_45 =>
 retA x_44 h_45 Q)) (sliceA 2 a0 none (some (g s_2 0)) fun x_46 =>
 appA 2 16 .e0 x_46 h_3 fun x_47 h_48 =>
 appA 2 16 x_47 (.rs 2 [[(g c_1 0), (g c_1 1)]]) h_48 fun x_49 h_50 =>
 sliceA 2 a0 (some (g s_2 0)) none fun x_51 =>
 appA 2 16 x_49 x_51 h_50 fun x_52 h_53 =>
 retA x_52 h_53 Q))) [(I 0)] h
def c_vref19_addPlace : Cfg := ⟨tab, [], [(2, ⟨[5], [], [5, 7, 8, 9, 10, 11, 12, 13, 14, 15, 16, 17, 18, 19, 20]⟩)], [(2, [0, 1, 2, 3, 4, 5, 6, 7, 8, 9, 10, 11]), (4, [0, 1, 2, 3, 4, 5, 6, 7, 8, 9, 10, 11])], [14, 15, 16, 28, 29, 30], [11, 25]⟩
theorem vref19_addPlace_eq (a0 a1 : AV) (h : Heap) (Q : AV → Heap → Prop) : abody prog c_vref19_addPlace f169 [a0, a1] h Q = vref19_addPlace a0 a1 h Q := by kernel_rfl
theorem vref19_addPlace_ok : fnB c_vref19_addPlace f169 = true := by kernel_rfl
theorem vref19_addPlace_call {a0 a1 : AV} {h : Heap} {Q : AV → Heap → Prop} (hk : vref19_addPlace a0 a1 h Q) : ACalls prog n_vref19_addPlace [a0, a1] h Q := contract (cf := c_vref19_addPlace) tab_ok prog_mixed func169 vref19_addPlace_ok (Eq.mpr (vref19_addPlace_eq a0 a1 h Q) hk)
def vref19_before (a0 a1 : AV) (h : Heap) (Q : AV → Heap → Prop) : Prop :=
 aggA 2 a0 fun c_1 =>
 aggA 2 a1 fun c_2 =>
 binA .lss (g c_1 0) (g c_2 0) fun x_3 =>
 brA x_3 (retA (B true) h Q) (binA .eql (g c_1 0) (g c_2 0) fun x_4 =>
 brA x_4 (binA .lss (g c_1 1) (g c_2 1) fun x_5 =>
 retA x_5 h Q) (retA (B false) h Q))
def c_vref19_before : Cfg := ⟨tab, [], [], [], [], []⟩
theorem vref19_before_eq (a0 a1 : AV) (h : Heap) (Q : AV → Heap → Prop) : abody prog c_vref19_before f195 [a0, a1] h Q = vref19_before a0 a1 h Q := by kernel_rfl
theorem vref19_before_ok : fnB c_vref19_before f195 = true := by kernel_rfl
theorem vref19_before_call {a0 a1 : AV} {h : Heap} {Q : AV → Heap → Prop} (hk : vref19_before a0 a1 h Q) : ACalls prog n_vref19_before [a0, a1] h Q := contract (cf := c_vref19_before) tab_ok prog_mixed func195 vref19_before_ok (Eq.mpr (vref19_before_eq a0 a1 h Q) hk)
end Am
set_option linter.unusedVariables false
set_option linter.unusedSimpArgs false
namespace Am
open Go Go.Proofs.Tryz
end Am
set_option linter.unusedVariables false
set_option linter.unusedSimpArgs false
namespace Am
open Go Go.Proofs.Tryz
def flow_Comes (a0 a1 a2 a3 : AV) (h : Heap) (Q : AV → Heap → Prop) : Prop :=
 aggA 2 a0 fun c_1 =>
 aggA 3 a3 fun c_2 =>
 callS prog n_scheme_Check [(.agg [(g c_1 0), (g c_1 1)])] h fun r_3 h_4 =>
 binA .neq r_3 (I 0) fun x_5 =>
 brA x_5 (retA (.tup [(B false), r_3]) h_4 Q) (binA .lss a1 (I 0) fun x_6 =>
 brA x_6 (retA (.tup [(B false), (I 2)]) h_4 Q) (lenA (g c_1 1) fun x_7 =>
 binA .geq a1 x_7 fun x_8 =>
 brA x_8 (retA (.tup [(B false), (I 2)]) h_4 Q) (binA .lss a2 (I 0) fun x_9 =>
 brA x_9 (retA (.tup [(B false), (I 2)]) h_4 Q) (idxA 5 (g c_1 1) a1 h_4 fun p_10 =>
 fldA 1 p_10 fun p_11 =>
 fldA 0 p_11 fun p_12 =>
 loadV p_12 h_4 fun x_13 =>
 lenA x_13 fun x_14 =>
 binA .geq a2 x_14 fun x_15 =>
 brA x_15 (retA (.tup [(B false), (I 2)]) h_4 Q) (callS prog n_term_Size [(.agg [(g c_2 0), (g c_2 1), (g c_2 2)])] h_4 fun r_16 h_17 =>
 tupA r_16 0 fun x_18 =>
 tupA r_16 1 fun x_19 =>
 binA .gtr x_18 (I 100000) fun x_20 =>
 brA x_20 (retA (.tup [(B false), (I 3)]) h_17 Q) (callS prog n_flow_Flow [(.agg [(g c_1 0), (g c_1 1)])] h_17 fun r_21 h_22 =>
 tupA r_21 0 fun x_23 =>
 tupA r_21 1 fun x_24 =>
 binA .neq x_24 (I 0) fun x_25 =>
 brA x_25 (retA (.tup [(B false), x_24]) h_22 Q) (idxA 1 x_23 a1 h_22 fun p_26 =>
 loadV p_26 h_22 fun x_27 =>
 idxA 1 x_27 a2 h_22 fun p_28 =>
 loadV p_28 h_22 fun x_29 =>
 lenA x_29 fun x_30 =>
 loopS (fun s_31 h_32 K_33 =>
 binA .lss (g s_31 0) x_30 fun x_34 =>
 brA x_34 (idxA 2 x_29 (g s_31 0) h_32 fun p_35 =>
 loadG 2 p_35 h_32 fun c_36 =>
 callS prog n_flow_at [(.agg [(g c_1 0), (g c_1 1)]), (.agg [(g c_36 0), (g c_36 1)])] h_32 fun r_37 h_38 =>
 tupA r_37 0 fun x_39 =>
 tupA r_37 1 fun x_40 =>
 nilA x_39 <|
 loadG 3 x_39 h_38 fun c_41 =>
 newM h_38 fun m_42 h_43 =>
 (loadG 3 x_39 h_43 fun c_47 =>
 TV.ag [(g c_47 0), (g c_47 1), (g c_47 2)] = TV.ag [(g c_41 0), (g c_41 1), (g c_41 2)]) ∧
 (TV.ag [(g c_2 0), (g c_2 1), (g c_2 2)] = TV.ag [(g c_2 0), (g c_2 1), (g c_2 2)]) ∧
 callS prog n_flow_match [(.agg [(g c_41 0), (g c_41 1), (g c_41 2)]), (.agg [(g c_2 0), (g c_2 1), (g c_2 2)]), m_42] h_43 fun r_44 h_45 =>
 brA r_44 (retA (.tup [(B true), (I 0)]) h_45 Q) (binA .add (g s_31 0) (I 1) fun x_46 =>
 K_33 [x_46] h_45)) (retA (.tup [(B false), (I 0)]) h_32 Q)) [(I 0)] h_22)))))))
def c_flow_Comes : Cfg := ⟨tab, [], [(13, ⟨[72], [], [8, 9, 16, 17, 18, 72, 73, 74, 75, 76, 77, 78, 79, 80, 81, 82, 83, 84, 85, 86, 87, 88]⟩)], [(16, [0, 1, 2, 3, 4, 9, 10, 5])], [84, 85], []⟩
theorem flow_Comes_eq (a0 a1 a2 a3 : AV) (h : Heap) (Q : AV → Heap → Prop) : abody prog c_flow_Comes f28 [a0, a1, a2, a3] h Q = flow_Comes a0 a1 a2 a3 h Q := by kernel_rfl
theorem flow_Comes_ok : fnB c_flow_Comes f28 = true := by kernel_rfl
theorem flow_Comes_call {a0 a1 a2 a3 : AV} {h : Heap} {Q : AV → Heap → Prop} (hk : flow_Comes a0 a1 a2 a3 h Q) : ACalls prog n_flow_Comes [a0, a1, a2, a3] h Q := contract (cf := c_flow_Comes) tab_ok prog_mixed func28 flow_Comes_ok (Eq.mpr (flow_Comes_eq a0 a1 a2 a3 h Q) hk)
def flow_match (a0 a1 a2 : AV) (h : Heap) (Q : AV → Heap → Prop) : Prop :=
 aggA 3 a0 fun c_1 =>
 aggA 3 a1 fun c_2 =>
 lenA (g c_2 2) fun x_3 =>
 lenA (g c_1 2) fun x_4 =>
 binA .sub x_3 x_4 fun x_5 =>
 binA .lss x_5 (I 0) fun x_6 =>
 brA x_6 (retA (B false) h Q) (binA .neq (g c_1 0) (I 0) fun x_7 =>
 brA x_7 (binA .gtr x_5 (I 0) fun x_8 =>
 brA x_8 (retA (B false) h Q) (binA .neq (g c_1 0) (g c_2 0) fun x_9 =>
 brA x_9 (retA (B false) h Q) (binA .neq (g c_1 1) (g c_2 1) fun x_10 =>
 brA x_10 (retA (B false) h Q) (binA .eql (g c_1 0) (I 0) fun x_11 =>
 brA x_11 (sl3A 3 (g c_2 2) x_5 x_5 fun x_12 =>
 oneA (g c_2 0) <|
 oneA (g c_2 1) <|
 oneA x_12 <|
 oneA (g c_1 1) <|
 lookA [(.int .i64)] true (.agg [(I 0), (I 0), .e0]) a2 (g c_1 1) h fun x_13 =>
 tupA x_13 0 fun x_15 =>
 tupA x_13 1 fun x_16 =>
 aggA 3 x_15 fun c_17 =>
 brA x_16 (callS prog n_term_Same [(.agg [(g c_17 0), (g c_17 1), (g c_17 2)]), (.agg [(g c_2 0), (g c_2 1), x_12])] h fun r_18 h_19 =>
 notA r_18 fun x_20 =>
 brA x_20 (retA (B false) h_19 Q) (oneA (g c_1 1) <|
 updA [(.int .i64)] a2 (g c_1 1) (.agg [(g c_2 0), (g c_2 1), x_12]) h_19 fun h_22 =>
 lenA (g c_1 2) fun x_23 =>
 loopS (fun s_24 h_25 K_26 =>
 binA .lss (g s_24 0) x_23 fun x_27 =>
 brA x_27 (idxA 3 (g c_1 2) (g s_24 0) h_25 fun p_28 =>
 loadG 3 p_28 h_25 fun c_29 =>
 binA .add x_5 (g s_24 0) fun x_30 =>
 idxA 3 (g c_2 2) x_30 h_25 fun p_31 =>
 loadG 3 p_31 h_25 fun c_32 =>
 callS prog n_flow_match [(.agg [(g c_29 0), (g c_29 1), (g c_29 2)]), (.agg [(g c_32 0), (g c_32 1), (g c_32 2)]), a2] h_25 fun r_33 h_34 =>
 notA r_33 fun x_35 =>
 brA x_35 (retA (B false) h_34 Q) (binA .add (g s_24 0) (I 1) fun x_36 =>
 K_26 [x_36] h_34)) (retA (B true) h_25 Q)) [(I 0)] h_22)) (oneA (g c_1 1) <|
 updA [(.int .i64)] a2 (g c_1 1) (.agg [(g c_2 0), (g c_2 1), x_12]) h fun h_38 =>
 lenA (g c_1 2) fun x_39 =>
 loopS (fun s_40 h_41 K_42 =>
 binA .lss (g s_40 0) x_39 fun x_43 =>
 brA x_43 (idxA 3 (g c_1 2) (g s_40 0) h_41 fun p_44 =>
 loadG 3 p_44 h_41 fun c_45 =>
 binA .add x_5 (g s_40 0) fun x_46 =>
 idxA 3 (g c_2 2) x_46 h_41 fun p_47 =>
 loadG 3 p_47 h_41 fun c_48 =>
 callS prog n_flow_match [(.agg [(g c_45 0), (g c_45 1), (g c_45 2)]), (.agg [(g c_48 0), (g c_48 1), (g c_48 2)]), a2] h_41 fun r_49 h_50 =>
 notA r_49 fun x_51 =>
 brA x_51 (retA (B false) h_50 Q) (binA .add (g s_40 0) (I 1) fun x_52 =>
 K_42 [x_52] h_50)) (retA (B true) h_41 Q)) [(I 0)] h_38)) (lenA (g c_1 2) fun x_53 =>
 loopS (fun s_54 h_55 K_56 =>
 binA .lss (g s_54 0) x_53 fun x_57 =>
 brA x_57 (idxA 3 (g c_1 2) (g s_54 0) h_55 fun p_58 =>
 loadG 3 p_58 h_55 fun c_59 =>
 binA .add x_5 (g s_54 0) fun x_60 =>
 idxA 3 (g c_2 2) x_60 h_55 fun p_61 =>
 loadG 3 p_61 h_55 fun c_62 =>
 callS prog n_flow_match [(.agg [(g c_59 0), (g c_59 1), (g c_59 2)]), (.agg [(g c_62 0), (g c_62 1), (g c_62 2)]), a2] h_55 fun r_63 h_64 =>
 notA r_63 fun x_65 =>
 brA x_65 (retA (B false) h_64 Q) (binA .add (g s_54 0) (I 1) fun x_66 =>
 K_56 [x_66] h_64)) (retA (B true) h_55 Q)) [(I 0)] h))))) (binA .eql (g c_1 0) (I 0) fun x_67 =>
 brA x_67 (sl3A 3 (g c_2 2) x_5 x_5 fun x_68 =>
 oneA (g c_2 0) <|
 oneA (g c_2 1) <|
 oneA x_68 <|
 oneA (g c_1 1) <|
 lookA [(.int .i64)] true (.agg [(I 0), (I 0), .e0]) a2 (g c_1 1) h fun x_69 =>
 tupA x_69 0 fun x_71 =>
 tupA x_69 1 fun x_72 =>
 aggA 3 x_71 fun c_73 =>
 brA x_72 (callS prog n_term_Same [(.agg [(g c_73 0), (g c_73 1), (g c_73 2)]), (.agg [(g c_2 0), (g c_2 1), x_68])] h fun r_74 h_75 =>
 notA r_74 fun x_76 =>
 brA x_76 (retA (B false) h_75 Q) (oneA (g c_1 1) <|
 updA [(.int .i64)] a2 (g c_1 1) (.agg [(g c_2 0), (g c_2 1), x_68]) h_75 fun h_78 =>
 lenA (g c_1 2) fun x_79 =>
 loopS (fun s_80 h_81 K_82 =>
 binA .lss (g s_80 0) x_79 fun x_83 =>
 brA x_83 (idxA 3 (g c_1 2) (g s_80 0) h_81 fun p_84 =>
 loadG 3 p_84 h_81 fun c_85 =>
 binA .add x_5 (g s_80 0) fun x_86 =>
 idxA 3 (g c_2 2) x_86 h_81 fun p_87 =>
 loadG 3 p_87 h_81 fun c_88 =>
 callS prog n_flow_match [(.agg [(g c_85 0), (g c_85 1), (g c_85 2)]), (.agg [(g c_88 0), (g c_88 1), (g c_88 2)]), a2] h_81 fun r_89 h_90 =>
 notA r_89 fun x_91 =>
 brA x_91 (retA (B false) h_90 Q) (binA .add (g s_80 0) (I 1) fun x_92 =>
 K_82 [x_92] h_90)) (retA (B true) h_81 Q)) [(I 0)] h_78)) (oneA (g c_1 1) <|
 updA [(.int .i64)] a2 (g c_1 1) (.agg [(g c_2 0), (g c_2 1), x_68]) h fun h_94 =>
 lenA (g c_1 2) fun x_95 =>
 loopS (fun s_96 h_97 K_98 =>
 binA .lss (g s_96 0) x_95 fun x_99 =>
 brA x_99 (idxA 3 (g c_1 2) (g s_96 0) h_97 fun p_100 =>
 loadG 3 p_100 h_97 fun c_101 =>
 binA .add x_5 (g s_96 0) fun x_102 =>
 idxA 3 (g c_2 2) x_102 h_97 fun p_103 =>
 loadG 3 p_103 h_97 fun c_104 =>
 callS prog n_flow_match [(.agg [(g c_101 0), (g c_101 1), (g c_101 2)]), (.agg [(g c_104 0), (g c_104 1), (g c_104 2)]), a2] h_97 fun r_105 h_106 =>
 notA r_105 fun x_107 =>
 brA x_107 (retA (B false) h_106 Q) (binA .add (g s_96 0) (I 1) fun x_108 =>
 K_98 [x_108] h_106)) (retA (B true) h_97 Q)) [(I 0)] h_94)) (lenA (g c_1 2) fun x_109 =>
 loopS (fun s_110 h_111 K_112 =>
 binA .lss (g s_110 0) x_109 fun x_113 =>
 brA x_113 (idxA 3 (g c_1 2) (g s_110 0) h_111 fun p_114 =>
 loadG 3 p_114 h_111 fun c_115 =>
 binA .add x_5 (g s_110 0) fun x_116 =>
 idxA 3 (g c_2 2) x_116 h_111 fun p_117 =>
 loadG 3 p_117 h_111 fun c_118 =>
 callS prog n_flow_match [(.agg [(g c_115 0), (g c_115 1), (g c_115 2)]), (.agg [(g c_118 0), (g c_118 1), (g c_118 2)]), a2] h_111 fun r_119 h_120 =>
 notA r_119 fun x_121 =>
 brA x_121 (retA (B false) h_120 Q) (binA .add (g s_110 0) (I 1) fun x_122 =>
 K_112 [x_122] h_120)) (retA (B true) h_111 Q)) [(I 0)] h)))
def c_flow_match : Cfg := ⟨tab, [], [(11, ⟨[79], [], [6, 11, 12, 79, 80, 81, 82, 83, 84, 85, 86, 87, 88, 89, 90, 91, 92, 93, 94, 95]⟩)], [(5, [10, 0, 1, 2, 3, 4, 5, 6, 7, 8, 9, 11]), (13, [0, 1, 2, 3, 4, 5, 6, 7, 8, 9, 10])], [49, 51, 53, 84, 86, 90, 91], []⟩
theorem flow_match_eq (a0 a1 a2 : AV) (h : Heap) (Q : AV → Heap → Prop) : abody prog c_flow_match f70 [a0, a1, a2] h Q = flow_match a0 a1 a2 h Q := by kernel_rfl
theorem flow_match_ok : fnB c_flow_match f70 = true := by kernel_rfl
theorem flow_match_call {a0 a1 a2 : AV} {h : Heap} {Q : AV → Heap → Prop} (hk : flow_match a0 a1 a2 h Q) : ACalls prog n_flow_match [a0, a1, a2] h Q := contract (cf := c_flow_match) tab_ok prog_mixed func70 flow_match_ok (Eq.mpr (flow_match_eq a0 a1 a2 h Q) hk)
end Am
