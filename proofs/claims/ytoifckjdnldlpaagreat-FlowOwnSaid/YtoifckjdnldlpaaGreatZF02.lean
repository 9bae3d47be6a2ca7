/- Short texts of functions, made by program; each with its contract's rule. -/
import Derived.Test.YtoifckjdnldlpaaGreatZG0
set_option linter.unusedVariables false
set_option linter.unusedSimpArgs false
namespace Am
open Go Go.Proofs.Tryz
def term_Size (a0 : AV) (h : Heap) (Q : AV → Heap → Prop) : Prop :=
 aggA 3 a0 fun c_1 =>
 newA 1 [(I 0)] h fun p_2 h_3 =>
 oneA (I 100000) <|
 storeG p_2 [(I 100000)] h_3 fun h_4 =>
 callS prog n_term_measure [(.agg [(g c_1 0), (g c_1 1), (g c_1 2)]), p_2] h_4 fun r_5 h_6 =>
 loadV p_2 h_6 fun x_7 =>
 binA .lss x_7 (I 0) fun x_8 =>
 brA x_8 (retA (.tup [(I 100001), (I 0)]) h_6 Q) (loadV p_2 h_6 fun x_9 =>
 binA .sub (I 100000) x_9 fun x_10 =>
 retA (.tup [x_10, r_5]) h_6 Q)
def c_term_Size : Cfg := ⟨tab, [4], [], [], [], []⟩
theorem term_Size_eq (a0 : AV) (h : Heap) (Q : AV → Heap → Prop) : abody prog c_term_Size f69 [a0] h Q = term_Size a0 h Q := by kernel_rfl
theorem term_Size_ok : fnB c_term_Size f69 = true := by kernel_rfl
theorem term_Size_call {a0 : AV} {h : Heap} {Q : AV → Heap → Prop} (hk : term_Size a0 h Q) : ACalls prog n_term_Size [a0] h Q := contract (cf := c_term_Size) tab_ok prog_mixed func69 term_Size_ok (Eq.mpr (term_Size_eq a0 h Q) hk)
def term_Same (a0 a1 : AV) (h : Heap) (Q : AV → Heap → Prop) : Prop :=
 aggA 3 a0 fun c_1 =>
 aggA 3 a1 fun c_2 =>
 callS prog n_term_large [(.agg [(g c_1 0), (g c_1 1), (g c_1 2)])] h fun r_3 h_4 =>
 notA r_3 fun x_5 =>
 brA x_5 (callS prog n_term_large [(.agg [(g c_2 0), (g c_2 1), (g c_2 2)])] h_4 fun r_6 h_7 =>
 notA r_6 fun x_8 =>
 brA x_8 (callS prog n_term_same [(.agg [(g c_1 0), (g c_1 1), (g c_1 2)]), (.agg [(g c_2 0), (g c_2 1), (g c_2 2)])] h_7 fun r_9 h_10 =>
 retA r_9 h_10 Q) (retA (B false) h_7 Q)) (retA (B false) h_4 Q)
def c_term_Same : Cfg := ⟨tab, [], [], [], [], []⟩
theorem term_Same_eq (a0 a1 : AV) (h : Heap) (Q : AV → Heap → Prop) : abody prog c_term_Same f95 [a0, a1] h Q = term_Same a0 a1 h Q := by kernel_rfl
theorem term_Same_ok : fnB c_term_Same f95 = true := by kernel_rfl
theorem term_Same_call {a0 a1 : AV} {h : Heap} {Q : AV → Heap → Prop} (hk : term_Same a0 a1 h Q) : ACalls prog n_term_Same [a0, a1] h Q := contract (cf := c_term_Same) tab_ok prog_mixed func95 term_Same_ok (Eq.mpr (term_Same_eq a0 a1 h Q) hk)
def vref02_Nodes (a0 a1 : AV) (h : Heap) (Q : AV → Heap → Prop) : Prop :=
 aggA 3 a0 fun c_1 =>
 loopS (fun s_2 h_3 K_4 =>
 lenA (g c_1 2) fun x_5 =>
 binA .lss (g s_2 1) x_5 fun x_6 =>
 brA x_6 (binA .leq (g s_2 0) a1 fun x_7 =>
 brA x_7 (idxA 3 (g c_1 2) (g s_2 1) h_3 fun p_8 =>
 loadG 3 p_8 h_3 fun c_9 =>
 binA .sub a1 (g s_2 0) fun x_10 =>
 callS prog n_vref02_Nodes [(.agg [(g c_9 0), (g c_9 1), (g c_9 2)]), x_10] h_3 fun r_11 h_12 =>
 binA .add (g s_2 0) r_11 fun x_13 =>
 binA .add (g s_2 1) (I 1) fun x_14 =>
 K_4 [x_13, x_14] h_12) (retA (g s_2 0) h_3 Q)) (retA (g s_2 0) h_3 Q)) [(I 1), (I 0)] h
def c_vref02_Nodes : Cfg := ⟨tab, [], [(3, ⟨[5, 6], [], [5, 6, 7, 8, 9, 10, 11, 12, 13, 14, 15, 16, 17, 18, 19, 20, 21, 22, 23, 24, 25, 26, 27, 28, 29]⟩)], [], [], []⟩
theorem vref02_Nodes_eq (a0 a1 : AV) (h : Heap) (Q : AV → Heap → Prop) : abody prog c_vref02_Nodes f23 [a0, a1] h Q = vref02_Nodes a0 a1 h Q := by kernel_rfl
theorem vref02_Nodes_ok : fnB c_vref02_Nodes f23 = true := by kernel_rfl
theorem vref02_Nodes_call {a0 a1 : AV} {h : Heap} {Q : AV → Heap → Prop} (hk : vref02_Nodes a0 a1 h Q) : ACalls prog n_vref02_Nodes [a0, a1] h Q := contract (cf := c_vref02_Nodes) tab_ok prog_mixed func23 vref02_Nodes_ok (Eq.mpr (vref02_Nodes_eq a0 a1 h Q) hk)
def vref02_Copy (a0 : AV) (h : Heap) (Q : AV → Heap → Prop) : Prop :=
 aggA 3 a0 fun c_1 =>
 oneA (g c_1 0) <|
 oneA (g c_1 1) <|
 lenA (g c_1 2) fun x_2 =>
 loopS (fun s_3 h_4 K_5 =>
 binA .lss (g s_3 0) x_2 fun x_6 =>
 brA x_6 (idxA 3 (g c_1 2) (g s_3 0) h_4 fun p_7 =>
 loadG 3 p_7 h_4 fun c_8 =>
 callS prog n_vref02_Copy [(.agg [(g c_8 0), (g c_8 1), (g c_8 2)])] h_4 fun r_9 h_10 =>
 aggA 3 r_9 fun c_11 =>
 appA 3 40 (g s_3 3) (.rs 3 [[(g c_11 0), (g c_11 1), (g c_11 2)]]) h_10 fun x_12 h_13 =>
 oneA x_12 <|
 binA .add (g s_3 0) (I 1) fun x_14 =>
 K_5 [x_14, (g s_3 1), (g s_3 2), x_12] h_13) (retA (.agg [(g s_3 1), (g s_3 2), (g s_3 3)]) h_4 Q)) [(I 0), (g c_1 0), (g c_1 1), .e0] h
def c_vref02_Copy : Cfg := ⟨tab, [], [(3, ⟨[14], [3], [5, 14, 15, 16, 17, 18, 19, 20, 21, 22, 23, 24, 25]⟩)], [(5, [0, 1, 2, 3, 4, 5, 6, 7])], [20], []⟩
theorem vref02_Copy_eq (a0 : AV) (h : Heap) (Q : AV → Heap → Prop) : abody prog c_vref02_Copy f25 [a0] h Q = vref02_Copy a0 h Q := by kernel_rfl
theorem vref02_Copy_ok : fnB c_vref02_Copy f25 = true := by kernel_rfl
theorem vref02_Copy_call {a0 : AV} {h : Heap} {Q : AV → Heap → Prop} (hk : vref02_Copy a0 h Q) : ACalls prog n_vref02_Copy [a0] h Q := contract (cf := c_vref02_Copy) tab_ok prog_mixed func25 vref02_Copy_ok (Eq.mpr (vref02_Copy_eq a0 h Q) hk)
def vref01_Copy (a0 : AV) (h : Heap) (Q : AV → Heap → Prop) : Prop :=
 aggA 1 a0 fun c_1 =>
 lenA (g c_1 0) fun x_2 =>
 loopS (fun s_3 h_4 K_5 =>
 binA .lss (g s_3 0) x_2 fun x_6 =>
 brA x_6 (idxA 1 (g c_1 0) (g s_3 0) h_4 fun p_7 =>
 loadG 1 p_7 h_4 fun c_8 =>
 callS prog n_vref01_Copy [(.agg [(g c_8 0)])] h_4 fun r_9 h_10 =>
 aggA 1 r_9 fun c_11 =>
 appA 1 24 (g s_3 1) (.rs 1 [[(g c_11 0)]]) h_10 fun x_12 h_13 =>
 oneA x_12 <|
 binA .add (g s_3 0) (I 1) fun x_14 =>
 K_5 [x_14, x_12] h_13) (retA (.agg [(g s_3 1)]) h_4 Q)) [(I 0), .e0] h
def c_vref01_Copy : Cfg := ⟨tab, [], [(3, ⟨[9], [3], [5, 9, 10, 11, 12, 13, 14, 15, 16, 17, 18, 19, 20]⟩)], [(5, [0, 1, 2, 3, 4, 5, 6, 7])], [15], []⟩
theorem vref01_Copy_eq (a0 : AV) (h : Heap) (Q : AV → Heap → Prop) : abody prog c_vref01_Copy f66 [a0] h Q = vref01_Copy a0 h Q := by kernel_rfl
theorem vref01_Copy_ok : fnB c_vref01_Copy f66 = true := by kernel_rfl
theorem vref01_Copy_call {a0 : AV} {h : Heap} {Q : AV → Heap → Prop} (hk : vref01_Copy a0 h Q) : ACalls prog n_vref01_Copy [a0] h Q := contract (cf := c_vref01_Copy) tab_ok prog_mixed func66 vref01_Copy_ok (Eq.mpr (vref01_Copy_eq a0 h Q) hk)
def vref02_Equal (a0 a1 : AV) (h : Heap) (Q : AV → Heap → Prop) : Prop :=
 aggA 3 a0 fun c_1 =>
 aggA 3 a1 fun c_2 =>
 binA .neq (g c_1 0) (g c_2 0) fun x_3 =>
 brA x_3 (retA (B false) h Q) (binA .neq (g c_1 1) (g c_2 1) fun x_4 =>
 brA x_4 (retA (B false) h Q) (lenA (g c_1 2) fun x_5 =>
 lenA (g c_2 2) fun x_6 =>
 binA .neq x_5 x_6 fun x_7 =>
 brA x_7 (retA (B false) h Q) (lenA (g c_1 2) fun x_8 =>
 loopS (fun s_9 h_10 K_11 =>
 binA .lss (g s_9 0) x_8 fun x_12 =>
 brA x_12 (idxA 3 (g c_1 2) (g s_9 0) h_10 fun p_13 =>
 loadG 3 p_13 h_10 fun c_14 =>
 idxA 3 (g c_2 2) (g s_9 0) h_10 fun p_15 =>
 loadG 3 p_15 h_10 fun c_16 =>
 callS prog n_vref02_Equal [(.agg [(g c_14 0), (g c_14 1), (g c_14 2)]), (.agg [(g c_16 0), (g c_16 1), (g c_16 2)])] h_10 fun r_17 h_18 =>
 notA r_17 fun x_19 =>
 brA x_19 (retA (B false) h_18 Q) (binA .add (g s_9 0) (I 1) fun x_20 =>
 K_11 [x_20] h_18)) (retA (B true) h_10 Q)) [(I 0)] h)))
def c_vref02_Equal : Cfg := ⟨tab, [], [(4, ⟨[30], [], [4, 5, 30, 31, 32, 33, 34, 35, 36, 37, 38, 39, 40, 41, 42, 43, 44, 45]⟩)], [(6, [0, 1, 2, 3, 4, 5, 6, 7, 8, 9, 10, 11])], [34, 36, 37, 39, 41, 42], []⟩
theorem vref02_Equal_eq (a0 a1 : AV) (h : Heap) (Q : AV → Heap → Prop) : abody prog c_vref02_Equal f31 [a0, a1] h Q = vref02_Equal a0 a1 h Q := by kernel_rfl
theorem vref02_Equal_ok : fnB c_vref02_Equal f31 = true := by kernel_rfl
theorem vref02_Equal_call {a0 a1 : AV} {h : Heap} {Q : AV → Heap → Prop} (hk : vref02_Equal a0 a1 h Q) : ACalls prog n_vref02_Equal [a0, a1] h Q := contract (cf := c_vref02_Equal) tab_ok prog_mixed func31 vref02_Equal_ok (Eq.mpr (vref02_Equal_eq a0 a1 h Q) hk)
def vref01_Equal (a0 a1 : AV) (h : Heap) (Q : AV → Heap → Prop) : Prop :=
 aggA 1 a0 fun c_1 =>
 aggA 1 a1 fun c_2 =>
 lenA (g c_1 0) fun x_3 =>
 lenA (g c_2 0) fun x_4 =>
 binA .neq x_3 x_4 fun x_5 =>
 brA x_5 (retA (B false) h Q) (lenA (g c_1 0) fun x_6 =>
 loopS (fun s_7 h_8 K_9 =>
 binA .lss (g s_7 0) x_6 fun x_10 =>
 brA x_10 (idxA 1 (g c_1 0) (g s_7 0) h_8 fun p_11 =>
 loadG 1 p_11 h_8 fun c_12 =>
 idxA 1 (g c_2 0) (g s_7 0) h_8 fun p_13 =>
 loadG 1 p_13 h_8 fun c_14 =>
 callS prog n_vref01_Equal [(.agg [(g c_12 0)]), (.agg [(g c_14 0)])] h_8 fun r_15 h_16 =>
 notA r_15 fun x_17 =>
 brA x_17 (retA (B false) h_16 Q) (binA .add (g s_7 0) (I 1) fun x_18 =>
 K_9 [x_18] h_16)) (retA (B true) h_8 Q)) [(I 0)] h)
def c_vref01_Equal : Cfg := ⟨tab, [], [(4, ⟨[16], [], [4, 5, 16, 17, 18, 19, 20, 21, 22, 23, 24, 25, 26, 27, 28, 29, 30, 31]⟩)], [(6, [0, 1, 2, 3, 4, 5, 6, 7, 8, 9, 10, 11])], [20, 22, 23, 25, 27, 28], []⟩
theorem vref01_Equal_eq (a0 a1 : AV) (h : Heap) (Q : AV → Heap → Prop) : abody prog c_vref01_Equal f72 [a0, a1] h Q = vref01_Equal a0 a1 h Q := by kernel_rfl
theorem vref01_Equal_ok : fnB c_vref01_Equal f72 = true := by kernel_rfl
theorem vref01_Equal_call {a0 a1 : AV} {h : Heap} {Q : AV → Heap → Prop} (hk : vref01_Equal a0 a1 h Q) : ACalls prog n_vref01_Equal [a0, a1] h Q := contract (cf := c_vref01_Equal) tab_ok prog_mixed func72 vref01_Equal_ok (Eq.mpr (vref01_Equal_eq a0 a1 h Q) hk)
def vref02_Of (a0 a1 : AV) (h : Heap) (Q : AV → Heap → Prop) : Prop :=
 aggA 3 a0 fun c_1 =>
 aggA 3 a1 fun c_2 =>
 callS prog n_vref02_head [(.agg [(g c_1 0), (g c_1 1), (g c_1 2)]), (.agg [(g c_2 0), (g c_2 1), (g c_2 2)])] h fun r_3 h_4 =>
 tupA r_3 0 fun x_5 =>
 tupA r_3 1 fun x_6 =>
 aggA 1 x_5 fun c_7 =>
 notA x_6 fun x_8 =>
 brA x_8 (retA (.tup [(.agg [.e0]), (B false)]) h_4 Q) (lenA (g c_2 2) fun x_9 =>
 lenA (g c_7 0) fun x_10 =>
 binA .gtr x_9 x_10 fun x_11 =>
 brA x_11 (retA (.tup [(.agg [.e0]), (B false)]) h_4 Q) (lenA (g c_2 2) fun x_12 =>
 loopS (fun s_13 h_14 K_15 =>
 binA .lss (g s_13 0) x_12 fun x_16 =>
 brA x_16 (idxA 3 (g c_2 2) (g s_13 0) h_14 fun p_17 =>
 loadG 3 p_17 h_14 fun c_18 =>
 callS prog n_vref02_Of [(.agg [(g c_1 0), (g c_1 1), (g c_1 2)]), (.agg [(g c_18 0), (g c_18 1), (g c_18 2)])] h_14 fun r_19 h_20 =>
 tupA r_19 0 fun x_21 =>
 tupA r_19 1 fun x_22 =>
 aggA 1 x_21 fun c_23 =>
 notA x_22 fun x_24 =>
 brA x_24 (retA (.tup [(.agg [.e0]), (B false)]) h_20 Q) (idxA 1 (g c_7 0) (g s_13 0) h_20 fun p_25 =>
 loadG 1 p_25 h_20 fun c_26 =>
 callS prog n_vref01_Equal [(.agg [(g c_23 0)]), (.agg [(g c_26 0)])] h_20 fun r_27 h_28 =>
 notA r_27 fun x_29 =>
 brA x_29 (retA (.tup [(.agg [.e0]), (B false)]) h_28 Q) (binA .add (g s_13 0) (I 1) fun x_30 =>
 K_15 [x_30, (g s_13 1)] h_28))) (lenA (g c_2 2) fun x_31 =>
 sliceA 1 (g c_7 0) (some x_31) none fun x_32 =>
 oneA x_32 <|
 retA (.tup [(.agg [x_32]), (B true)]) h_14 Q)) [(I 0), .e0] h_4))
def c_vref02_Of : Cfg := ⟨tab, [], [(5, ⟨[33], [4], [5, 8, 9, 10, 11, 33, 34, 35, 36, 37, 38, 39, 40, 41, 42, 43, 44, 45, 46, 47, 48, 49, 50, 51, 52, 53, 54, 55, 56, 57]⟩)], [(8, [0, 1, 2, 3, 4, 5, 6, 7, 8, 9, 10, 11])], [47, 49, 51, 52], [46]⟩
theorem vref02_Of_eq (a0 a1 : AV) (h : Heap) (Q : AV → Heap → Prop) : abody prog c_vref02_Of f48 [a0, a1] h Q = vref02_Of a0 a1 h Q := by kernel_rfl
theorem vref02_Of_ok : fnB c_vref02_Of f48 = true := by kernel_rfl
theorem vref02_Of_call {a0 a1 : AV} {h : Heap} {Q : AV → Heap → Prop} (hk : vref02_Of a0 a1 h Q) : ACalls prog n_vref02_Of [a0, a1] h Q := contract (cf := c_vref02_Of) tab_ok prog_mixed func48 vref02_Of_ok (Eq.mpr (vref02_Of_eq a0 a1 h Q) hk)
def sorts_Check (a0 : AV) (h : Heap) (Q : AV → Heap → Prop) : Prop :=
 aggA 1 a0 fun c_1 =>
 callS prog n_sorts_Size [(.agg [(g c_1 0)])] h fun r_2 h_3 =>
 tupA r_2 0 fun x_4 =>
 tupA r_2 1 fun x_5 =>
 binA .gtr x_4 (I 60) fun x_6 =>
 brA x_6 (retA (I 6) h_3 Q) (binA .gtr x_5 (I 30) fun x_7 =>
 brA x_7 (retA (I 6) h_3 Q) (callS prog n_sorts_all [(.agg [(g c_1 0)]), (.fn 152 [])] h_3 fun r_8 h_9 =>
 notA r_8 fun x_10 =>
 brA x_10 (retA (I 6) h_9 Q) (retA (I 0) h_9 Q)))
def c_sorts_Check : Cfg := ⟨tab, [], [], [], [], []⟩
theorem sorts_Check_eq (a0 : AV) (h : Heap) (Q : AV → Heap → Prop) : abody prog c_sorts_Check f108 [a0] h Q = sorts_Check a0 h Q := by kernel_rfl
theorem sorts_Check_ok : fnB c_sorts_Check f108 = true := by kernel_rfl
theorem sorts_Check_call {a0 : AV} {h : Heap} {Q : AV → Heap → Prop} (hk : sorts_Check a0 h Q) : ACalls prog n_sorts_Check [a0] h Q := contract (cf := c_sorts_Check) tab_ok prog_mixed func108 sorts_Check_ok (Eq.mpr (sorts_Check_eq a0 h Q) hk)
def term_Symbols (a0 : AV) (h : Heap) (Q : AV → Heap → Prop) : Prop :=
 newM h fun m_1 h_2 =>
 lenA a0 fun x_3 =>
 loopS (fun s_4 h_5 K_6 =>
 binA .lss (g s_4 0) x_3 fun x_7 =>
 brA x_7 (idxA 2 a0 (g s_4 0) h_5 fun p_8 =>
 loadG 2 p_8 h_5 fun c_9 =>
 callS prog n_term_Name [(g c_9 0)] h_5 fun r_10 h_11 =>
 notA r_10 fun x_12 =>
 brA x_12 (retA (B false) h_11 Q) (oneA (g c_9 0) <|
 lookA [.str] false (B false) m_1 (g c_9 0) h_11 fun x_13 =>
 brA x_13 (retA (B false) h_11 Q) (binA .lss (g c_9 1) (I 0) fun x_15 =>
 brA x_15 (retA (B false) h_11 Q) (binA .gtr (g c_9 1) (I 4) fun x_16 =>
 brA x_16 (retA (B false) h_11 Q) (oneA (g c_9 0) <|
 updA [.str] m_1 (g c_9 0) (B true) h_11 fun h_18 =>
 binA .add (g s_4 0) (I 1) fun x_19 =>
 K_6 [x_19] h_18))))) (lenA a0 fun x_20 =>
 binA .leq x_20 (I 24) fun x_21 =>
 retA x_21 h_5 Q)) [(I 0)] h_2
def c_term_Symbols : Cfg := ⟨tab, [], [(3, ⟨[9], [], [2, 5, 9, 10, 11, 12, 13, 14, 15, 16, 17, 18, 19, 20, 21, 22, 23, 24, 25, 26, 27, 28, 29, 30, 31, 32, 33, 34, 35, 36]⟩)], [], [], []⟩
theorem term_Symbols_eq (a0 : AV) (h : Heap) (Q : AV → Heap → Prop) : abody prog c_term_Symbols f106 [a0] h Q = term_Symbols a0 h Q := by kernel_rfl
theorem term_Symbols_ok : fnB c_term_Symbols f106 = true := by kernel_rfl
theorem term_Symbols_call {a0 : AV} {h : Heap} {Q : AV → Heap → Prop} (hk : term_Symbols a0 h Q) : ACalls prog n_term_Symbols [a0] h Q := contract (cf := c_term_Symbols) tab_ok prog_mixed func106 term_Symbols_ok (Eq.mpr (term_Symbols_eq a0 h Q) hk)
def term_large (a0 : AV) (h : Heap) (Q : AV → Heap → Prop) : Prop :=
 aggA 3 a0 fun c_1 =>
 callS prog n_term_Size [(.agg [(g c_1 0), (g c_1 1), (g c_1 2)])] h fun r_2 h_3 =>
 tupA r_2 0 fun x_4 =>
 tupA r_2 1 fun x_5 =>
 binA .gtr x_4 (I 100000) fun x_6 =>
 retA x_6 h_3 Q
def c_term_large : Cfg := ⟨tab, [], [], [], [], []⟩
theorem term_large_eq (a0 : AV) (h : Heap) (Q : AV → Heap → Prop) : abody prog c_term_large f144 [a0] h Q = term_large a0 h Q := by kernel_rfl
theorem term_large_ok : fnB c_term_large f144 = true := by kernel_rfl
theorem term_large_call {a0 : AV} {h : Heap} {Q : AV → Heap → Prop} (hk : term_large a0 h Q) : ACalls prog n_term_large [a0] h Q := contract (cf := c_term_large) tab_ok prog_mixed func144 term_large_ok (Eq.mpr (term_large_eq a0 h Q) hk)
def term_Place_sort (a0 a1 : AV) (h : Heap) (Q : AV → Heap → Prop) : Prop :=
 aggA 3 a0 fun c_1 =>
 aggA 3 a1 fun c_2 =>
 callS prog n_term_Place_head [(.agg [(g c_1 0), (g c_1 1), (g c_1 2)]), (.agg [(g c_2 0), (g c_2 1), (g c_2 2)])] h fun r_3 h_4 =>
 tupA r_3 0 fun x_5 =>
 tupA r_3 1 fun x_6 =>
 aggA 1 x_5 fun c_7 =>
 notA x_6 fun x_8 =>
 brA x_8 (retA (.tup [(.agg [.e0]), (B false)]) h_4 Q) (lenA (g c_2 2) fun x_9 =>
 lenA (g c_7 0) fun x_10 =>
 binA .gtr x_9 x_10 fun x_11 =>
 brA x_11 (retA (.tup [(.agg [.e0]), (B false)]) h_4 Q) (lenA (g c_2 2) fun x_12 =>
 loopS (fun s_13 h_14 K_15 =>
 binA .lss (g s_13 0) x_12 fun x_16 =>
 brA x_16 (idxA 3 (g c_2 2) (g s_13 0) h_14 fun p_17 =>
 loadG 3 p_17 h_14 fun c_18 =>
 callS prog n_term_Place_sort [(.agg [(g c_1 0), (g c_1 1), (g c_1 2)]), (.agg [(g c_18 0), (g c_18 1), (g c_18 2)])] h_14 fun r_19 h_20 =>
 tupA r_19 0 fun x_21 =>
 tupA r_19 1 fun x_22 =>
 aggA 1 x_21 fun c_23 =>
 notA x_22 fun x_24 =>
 brA x_24 (retA (.tup [(.agg [.e0]), (B false)]) h_20 Q) (idxA 1 (g c_7 0) (g s_13 0) h_20 fun p_25 =>
 loadG 1 p_25 h_20 fun c_26 =>
 callS prog n_sorts_Same [(.agg [(g c_23 0)]), (.agg [(g c_26 0)])] h_20 fun r_27 h_28 =>
 notA r_27 fun x_29 =>
 brA x_29 (retA (.tup [(.agg [.e0]), (B false)]) h_28 Q) (binA .add (g s_13 0) (I 1) fun x_30 =>
 K_15 [x_30, (g s_13 1)] h_28))) (lenA (g c_2 2) fun x_31 =>
 sliceA 1 (g c_7 0) (some x_31) none fun x_32 =>
 oneA x_32 <|
 retA (.tup [(.agg [x_32]), (B true)]) h_14 Q)) [(I 0), .e0] h_4))
def c_term_Place_sort : Cfg := ⟨tab, [], [(5, ⟨[33], [4], [5, 8, 9, 10, 11, 33, 34, 35, 36, 37, 38, 39, 40, 41, 42, 43, 44, 45, 46, 47, 48, 49, 50, 51, 52, 53, 54, 55, 56, 57]⟩)], [(8, [0, 1, 2, 3, 4, 5, 6, 7, 8, 9, 10, 11])], [47, 49, 51, 52], [46]⟩
theorem term_Place_sort_eq (a0 a1 : AV) (h : Heap) (Q : AV → Heap → Prop) : abody prog c_term_Place_sort f153 [a0, a1] h Q = term_Place_sort a0 a1 h Q := by kernel_rfl
theorem term_Place_sort_ok : fnB c_term_Place_sort f153 = true := by kernel_rfl
theorem term_Place_sort_call {a0 a1 : AV} {h : Heap} {Q : AV → Heap → Prop} (hk : term_Place_sort a0 a1 h Q) : ACalls prog n_term_Place_sort [a0, a1] h Q := contract (cf := c_term_Place_sort) tab_ok prog_mixed func153 term_Place_sort_ok (Eq.mpr (term_Place_sort_eq a0 a1 h Q) hk)
def vref01_Nodes (a0 a1 : AV) (h : Heap) (Q : AV → Heap → Prop) : Prop :=
 aggA 1 a0 fun c_1 =>
 loopS (fun s_2 h_3 K_4 =>
 lenA (g c_1 0) fun x_5 =>
 binA .lss (g s_2 1) x_5 fun x_6 =>
 brA x_6 (binA .leq (g s_2 0) a1 fun x_7 =>
 brA x_7 (idxA 1 (g c_1 0) (g s_2 1) h_3 fun p_8 =>
 loadG 1 p_8 h_3 fun c_9 =>
 binA .sub a1 (g s_2 0) fun x_10 =>
 callS prog n_vref01_Nodes [(.agg [(g c_9 0)]), x_10] h_3 fun r_11 h_12 =>
 binA .add (g s_2 0) r_11 fun x_13 =>
 binA .add (g s_2 1) (I 1) fun x_14 =>
 K_4 [x_13, x_14] h_12) (retA (g s_2 0) h_3 Q)) (retA (g s_2 0) h_3 Q)) [(I 1), (I 0)] h
def c_vref01_Nodes : Cfg := ⟨tab, [], [(3, ⟨[5, 6], [], [5, 6, 7, 8, 9, 10, 11, 12, 13, 14, 15, 16, 17, 18, 19, 20, 21, 22, 23, 24, 25, 26, 27, 28, 29]⟩)], [], [], []⟩
theorem vref01_Nodes_eq (a0 a1 : AV) (h : Heap) (Q : AV → Heap → Prop) : abody prog c_vref01_Nodes f99 [a0, a1] h Q = vref01_Nodes a0 a1 h Q := by kernel_rfl
theorem vref01_Nodes_ok : fnB c_vref01_Nodes f99 = true := by kernel_rfl
theorem vref01_Nodes_call {a0 a1 : AV} {h : Heap} {Q : AV → Heap → Prop} (hk : vref01_Nodes a0 a1 h Q) : ACalls prog n_vref01_Nodes [a0, a1] h Q := contract (cf := c_vref01_Nodes) tab_ok prog_mixed func99 vref01_Nodes_ok (Eq.mpr (vref01_Nodes_eq a0 a1 h Q) hk)
def term_measure (a0 a1 : AV) (h : Heap) (Q : AV → Heap → Prop) : Prop :=
 aggA 3 a0 fun c_1 =>
 nilA a1 <|
 loadV a1 h fun x_2 =>
 binA .sub x_2 (I 1) fun x_3 =>
 nilA a1 <|
 oneA x_3 <|
 storeG a1 [x_3] h fun h_4 =>
 lenA (g c_1 2) fun x_5 =>
 loopS (fun s_6 h_7 K_8 =>
 binA .lss (g s_6 1) x_5 fun x_9 =>
 brA x_9 (idxA 3 (g c_1 2) (g s_6 1) h_7 fun p_10 =>
 loadG 3 p_10 h_7 fun c_11 =>
 nilA a1 <|
 loadV a1 h_7 fun x_12 =>
 binA .lss x_12 (I 0) fun x_13 =>
 brA x_13 (retA (I 0) h_7 Q) (callS prog n_term_measure [(.agg [(g c_11 0), (g c_11 1), (g c_11 2)]), a1] h_7 fun r_14 h_15 =>
 maxA (g s_6 0) r_14 fun x_16 =>
 binA .add (g s_6 1) (I 1) fun x_17 =>
 K_8 [x_16, x_17] h_15)) (binA .add (g s_6 0) (I 1) fun x_18 =>
 retA x_18 h_7 Q)) [(I 0), (I 0)] h_4
def c_term_measure : Cfg := ⟨tab, [], [(4, ⟨[5, 16], [], [4, 5, 7, 16, 17, 18, 19, 20, 21, 22, 23, 24, 25, 26, 27, 28, 29]⟩)], [], [], []⟩
theorem term_measure_eq (a0 a1 : AV) (h : Heap) (Q : AV → Heap → Prop) : abody prog c_term_measure f122 [a0, a1] h Q = term_measure a0 a1 h Q := by kernel_rfl
theorem term_measure_ok : fnB c_term_measure f122 = true := by kernel_rfl
theorem term_measure_call {a0 a1 : AV} {h : Heap} {Q : AV → Heap → Prop} (hk : term_measure a0 a1 h Q) : ACalls prog n_term_measure [a0, a1] h Q := contract (cf := c_term_measure) tab_ok prog_mixed func122 term_measure_ok (Eq.mpr (term_measure_eq a0 a1 h Q) hk)
def vref02_Depth (a0 : AV) (h : Heap) (Q : AV → Heap → Prop) : Prop :=
 aggA 3 a0 fun c_1 =>
 lenA (g c_1 2) fun x_2 =>
 loopS (fun s_3 h_4 K_5 =>
 binA .lss (g s_3 1) x_2 fun x_6 =>
 brA x_6 (idxA 3 (g c_1 2) (g s_3 1) h_4 fun p_7 =>
 loadG 3 p_7 h_4 fun c_8 =>
 callS prog n_vref02_Depth [(.agg [(g c_8 0), (g c_8 1), (g c_8 2)])] h_4 fun r_9 h_10 =>
 maxA (g s_3 0) r_9 fun x_11 =>
 binA .add (g s_3 1) (I 1) fun x_12 =>
 K_5 [x_11, x_12] h_10) (binA .add (g s_3 0) (I 1) fun x_13 =>
 retA x_13 h_4 Q)) [(I 0), (I 0)] h
def c_vref02_Depth : Cfg := ⟨tab, [], [(3, ⟨[3, 9], [], [3, 5, 9, 10, 11, 12, 13, 14, 15, 16, 17]⟩)], [], [], []⟩
theorem vref02_Depth_eq (a0 : AV) (h : Heap) (Q : AV → Heap → Prop) : abody prog c_vref02_Depth f47 [a0] h Q = vref02_Depth a0 h Q := by kernel_rfl
theorem vref02_Depth_ok : fnB c_vref02_Depth f47 = true := by kernel_rfl
theorem vref02_Depth_call {a0 : AV} {h : Heap} {Q : AV → Heap → Prop} (hk : vref02_Depth a0 h Q) : ACalls prog n_vref02_Depth [a0] h Q := contract (cf := c_vref02_Depth) tab_ok prog_mixed func47 vref02_Depth_ok (Eq.mpr (vref02_Depth_eq a0 h Q) hk)
def term_same (a0 a1 : AV) (h : Heap) (Q : AV → Heap → Prop) : Prop :=
 aggA 3 a0 fun c_1 =>
 aggA 3 a1 fun c_2 =>
 binA .neq (g c_1 0) (g c_2 0) fun x_3 =>
 brA x_3 (retA (B false) h Q) (binA .neq (g c_1 1) (g c_2 1) fun x_4 =>
 brA x_4 (retA (B false) h Q) (lenA (g c_1 2) fun x_5 =>
 lenA (g c_2 2) fun x_6 =>
 binA .neq x_5 x_6 fun x_7 =>
 brA x_7 (retA (B false) h Q) (lenA (g c_1 2) fun x_8 =>
 loopS (fun s_9 h_10 K_11 =>
 binA .lss (g s_9 0) x_8 fun x_12 =>
 brA x_12 (idxA 3 (g c_1 2) (g s_9 0) h_10 fun p_13 =>
 loadG 3 p_13 h_10 fun c_14 =>
 idxA 3 (g c_2 2) (g s_9 0) h_10 fun p_15 =>
 loadG 3 p_15 h_10 fun c_16 =>
 callS prog n_term_same [(.agg [(g c_14 0), (g c_14 1), (g c_14 2)]), (.agg [(g c_16 0), (g c_16 1), (g c_16 2)])] h_10 fun r_17 h_18 =>
 notA r_17 fun x_19 =>
 brA x_19 (retA (B false) h_18 Q) (binA .add (g s_9 0) (I 1) fun x_20 =>
 K_11 [x_20] h_18)) (retA (B true) h_10 Q)) [(I 0)] h)))
def c_term_same : Cfg := ⟨tab, [], [(4, ⟨[30], [], [4, 5, 30, 31, 32, 33, 34, 35, 36, 37, 38, 39, 40, 41, 42, 43, 44, 45]⟩)], [(6, [0, 1, 2, 3, 4, 5, 6, 7, 8, 9, 10, 11])], [34, 36, 37, 39, 41, 42], []⟩
theorem term_same_eq (a0 a1 : AV) (h : Heap) (Q : AV → Heap → Prop) : abody prog c_term_same f145 [a0, a1] h Q = term_same a0 a1 h Q := by kernel_rfl
theorem term_same_ok : fnB c_term_same f145 = true := by kernel_rfl
theorem term_same_call {a0 a1 : AV} {h : Heap} {Q : AV → Heap → Prop} (hk : term_same a0 a1 h Q) : ACalls prog n_term_same [a0, a1] h Q := contract (cf := c_term_same) tab_ok prog_mixed func145 term_same_ok (Eq.mpr (term_same_eq a0 a1 h Q) hk)
def term_copied (a0 : AV) (h : Heap) (Q : AV → Heap → Prop) : Prop :=
 aggA 3 a0 fun c_1 =>
 oneA (g c_1 0) <|
 oneA (g c_1 1) <|
 lenA (g c_1 2) fun x_2 =>
 loopS (fun s_3 h_4 K_5 =>
 binA .lss (g s_3 0) x_2 fun x_6 =>
 brA x_6 (idxA 3 (g c_1 2) (g s_3 0) h_4 fun p_7 =>
 loadG 3 p_7 h_4 fun c_8 =>
 callS prog n_term_copied [(.agg [(g c_8 0), (g c_8 1), (g c_8 2)])] h_4 fun r_9 h_10 =>
 aggA 3 r_9 fun c_11 =>
 appA 3 40 (g s_3 3) (.rs 3 [[(g c_11 0), (g c_11 1), (g c_11 2)]]) h_10 fun x_12 h_13 =>
 oneA x_12 <|
 binA .add (g s_3 0) (I 1) fun x_14 =>
 K_5 [x_14, (g s_3 1), (g s_3 2), x_12] h_13) (retA (.agg [(g s_3 1), (g s_3 2), (g s_3 3)]) h_4 Q)) [(I 0), (g c_1 0), (g c_1 1), .e0] h
def c_term_copied : Cfg := ⟨tab, [], [(3, ⟨[14], [3], [5, 14, 15, 16, 17, 18, 19, 20, 21, 22, 23, 24, 25]⟩)], [(5, [0, 1, 2, 3, 4, 5, 6, 7])], [20], []⟩
theorem term_copied_eq (a0 : AV) (h : Heap) (Q : AV → Heap → Prop) : abody prog c_term_copied f205 [a0] h Q = term_copied a0 h Q := by kernel_rfl
theorem term_copied_ok : fnB c_term_copied f205 = true := by kernel_rfl
theorem term_copied_call {a0 : AV} {h : Heap} {Q : AV → Heap → Prop} (hk : term_copied a0 h Q) : ACalls prog n_term_copied [a0] h Q := contract (cf := c_term_copied) tab_ok prog_mixed func205 term_copied_ok (Eq.mpr (term_copied_eq a0 h Q) hk)
def vref02_Symbols (a0 : AV) (h : Heap) (Q : AV → Heap → Prop) : Prop :=
 lenA a0 fun x_1 =>
 binA .gtr x_1 (I 24) fun x_2 =>
 brA x_2 (retA (B false) h Q) (lenA a0 fun x_3 =>
 loopS (fun s_4 h_5 K_6 =>
 binA .lss (g s_4 0) x_3 fun x_7 =>
 brA x_7 (idxA 2 a0 (g s_4 0) h_5 fun p_8 =>
 loadG 2 p_8 h_5 fun c_9 =>
 callS prog n_vref02_Name [(g c_9 0)] h_5 fun r_10 h_11 =>
 notA r_10 fun x_12 =>
 brA x_12 (retA (B false) h_11 Q) (binA .lss (g c_9 1) (I 0) fun x_13 =>
 brA x_13 (retA (B false) h_11 Q) (binA .gtr (g c_9 1) (I 4) fun x_14 =>
 brA x_14 (retA (B false) h_11 Q) (sliceA 2 a0 none (some (g s_4 0)) fun x_15 =>
 lenA x_15 fun x_16 =>
 loopS (fun s_17 h_18 K_19 =>
 binA .lss (g s_17 0) x_16 fun x_20 =>
 brA x_20 (idxA 2 x_15 (g s_17 0) h_18 fun p_21 =>
 loadG 2 p_21 h_18 fun c_22 =>
 binA .eql (g c_9 0) (g c_22 0) fun x_23 =>
 brA x_23 (retA (B false) h_18 Q) (binA .add (g s_17 0) (I 1) fun x_24 =>
 K_19 [x_24] h_18)) (binA .add (g s_4 0) (I 1) fun x_25 =>
 K_6 [x_25] h_18)) [(I 0)] h_11)))) (retA (B true) h_5 Q)) [(I 0)] h)
def c_vref02_Symbols : Cfg := ⟨tab, [], [(4, ⟨[12], [], [2, 3, 4, 6, 12, 13, 14, 15, 16, 17, 18, 19, 20, 21, 22, 23, 24, 25, 26, 27, 28, 29, 30, 31, 32, 33, 34, 35, 36, 37, 38, 39, 40, 41, 42, 43, 44, 45]⟩), (9, ⟨[35], [], [2, 6, 35, 36, 37, 38, 39, 40, 41, 42, 43, 44]⟩)], [], [], []⟩
theorem vref02_Symbols_eq (a0 : AV) (h : Heap) (Q : AV → Heap → Prop) : abody prog c_vref02_Symbols f44 [a0] h Q = vref02_Symbols a0 h Q := by kernel_rfl
theorem vref02_Symbols_ok : fnB c_vref02_Symbols f44 = true := by kernel_rfl
theorem vref02_Symbols_call {a0 : AV} {h : Heap} {Q : AV → Heap → Prop} (hk : vref02_Symbols a0 h Q) : ACalls prog n_vref02_Symbols [a0] h Q := contract (cf := c_vref02_Symbols) tab_ok prog_mixed func44 vref02_Symbols_ok (Eq.mpr (vref02_Symbols_eq a0 h Q) hk)
def vref02_Name (a0 : AV) (h : Heap) (Q : AV → Heap → Prop) : Prop :=
 lenS a0 fun x_1 =>
 binA .lss x_1 (I 1) fun x_2 =>
 brA x_2 (retA (B false) h Q) (lenS a0 fun x_3 =>
 binA .gtr x_3 (I 24) fun x_4 =>
 brA x_4 (retA (B false) h Q) (strA a0 (I 0) fun x_5 =>
 binA .lss x_5 (.val (.int .u8 97)) fun x_6 =>
 brA x_6 (retA (B false) h Q) (strA a0 (I 0) fun x_7 =>
 binA .gtr x_7 (.val (.int .u8 122)) fun x_8 =>
 brA x_8 (retA (B false) h Q) (loopS (fun s_9 h_10 K_11 =>
 lenS a0 fun x_12 =>
 binA .lss (g s_9 0) x_12 fun x_13 =>
 brA x_13 (strA a0 (g s_9 0) fun x_14 =>
 binA .lss x_14 (.val (.int .u8 97)) fun x_15 =>
 brA x_15 (strA a0 (g s_9 0) fun x_16 =>
 binA .lss x_16 (.val (.int .u8 48)) fun x_17 =>
 brA x_17 (strA a0 (g s_9 0) fun x_18 =>
 binA .neq x_18 (.val (.int .u8 95)) fun x_19 =>
 brA x_19 (retA (B false) h_10 Q) (binA .add (g s_9 0) (I 1) fun x_20 =>
 K_11 [x_20] h_10)) (strA a0 (g s_9 0) fun x_21 =>
 binA .gtr x_21 (.val (.int .u8 57)) fun x_22 =>
 brA x_22 (strA a0 (g s_9 0) fun x_23 =>
 binA .neq x_23 (.val (.int .u8 95)) fun x_24 =>
 brA x_24 (retA (B false) h_10 Q) (binA .add (g s_9 0) (I 1) fun x_25 =>
 K_11 [x_25] h_10)) (binA .add (g s_9 0) (I 1) fun x_26 =>
 K_11 [x_26] h_10))) (strA a0 (g s_9 0) fun x_27 =>
 binA .gtr x_27 (.val (.int .u8 122)) fun x_28 =>
 brA x_28 (strA a0 (g s_9 0) fun x_29 =>
 binA .lss x_29 (.val (.int .u8 48)) fun x_30 =>
 brA x_30 (strA a0 (g s_9 0) fun x_31 =>
 binA .neq x_31 (.val (.int .u8 95)) fun x_32 =>
 brA x_32 (retA (B false) h_10 Q) (binA .add (g s_9 0) (I 1) fun x_33 =>
 K_11 [x_33] h_10)) (strA a0 (g s_9 0) fun x_34 =>
 binA .gtr x_34 (.val (.int .u8 57)) fun x_35 =>
 brA x_35 (strA a0 (g s_9 0) fun x_36 =>
 binA .neq x_36 (.val (.int .u8 95)) fun x_37 =>
 brA x_37 (retA (B false) h_10 Q) (binA .add (g s_9 0) (I 1) fun x_38 =>
 K_11 [x_38] h_10)) (binA .add (g s_9 0) (I 1) fun x_39 =>
 K_11 [x_39] h_10))) (binA .add (g s_9 0) (I 1) fun x_40 =>
 K_11 [x_40] h_10))) (retA (B true) h_10 Q)) [(I 0)] h))))
def c_vref02_Name : Cfg := ⟨tab, [], [(4, ⟨[3], [], [2, 3, 22, 23, 24, 25, 26, 27, 28, 29, 30, 31, 32, 33, 34, 35, 36, 37, 38, 39, 40, 41, 42, 43, 44, 45, 46, 47, 48, 49, 50, 51, 52, 53, 54, 55]⟩)], [], [], []⟩
theorem vref02_Name_eq (a0 : AV) (h : Heap) (Q : AV → Heap → Prop) : abody prog c_vref02_Name f45 [a0] h Q = vref02_Name a0 h Q := by kernel_rfl
theorem vref02_Name_ok : fnB c_vref02_Name f45 = true := by kernel_rfl
theorem vref02_Name_call {a0 : AV} {h : Heap} {Q : AV → Heap → Prop} (hk : vref02_Name a0 h Q) : ACalls prog n_vref02_Name [a0] h Q := contract (cf := c_vref02_Name) tab_ok prog_mixed func45 vref02_Name_ok (Eq.mpr (vref02_Name_eq a0 h Q) hk)
def vref01_Is (a0 : AV) (h : Heap) (Q : AV → Heap → Prop) : Prop :=
 aggA 1 a0 fun c_1 =>
 callS prog n_vref01_Nodes [(.agg [(g c_1 0)]), (I 60)] h fun r_2 h_3 =>
 binA .leq r_2 (I 60) fun x_4 =>
 brA x_4 (callS prog n_vref01_depth [(.agg [(g c_1 0)])] h_3 fun r_5 h_6 =>
 binA .leq r_5 (I 30) fun x_7 =>
 brA x_7 (callS prog n_vref01_few [(.agg [(g c_1 0)])] h_6 fun r_8 h_9 =>
 retA r_8 h_9 Q) (retA (B false) h_6 Q)) (retA (B false) h_3 Q)
def c_vref01_Is : Cfg := ⟨tab, [], [], [], [], []⟩
theorem vref01_Is_eq (a0 : AV) (h : Heap) (Q : AV → Heap → Prop) : abody prog c_vref01_Is f46 [a0] h Q = vref01_Is a0 h Q := by kernel_rfl
theorem vref01_Is_ok : fnB c_vref01_Is f46 = true := by kernel_rfl
theorem vref01_Is_call {a0 : AV} {h : Heap} {Q : AV → Heap → Prop} (hk : vref01_Is a0 h Q) : ACalls prog n_vref01_Is [a0] h Q := contract (cf := c_vref01_Is) tab_ok prog_mixed func46 vref01_Is_ok (Eq.mpr (vref01_Is_eq a0 h Q) hk)
def vref02_head (a0 a1 : AV) (h : Heap) (Q : AV → Heap → Prop) : Prop :=
 aggA 3 a0 fun c_1 =>
 aggA 3 a1 fun c_2 =>
 binA .lss (g c_2 1) (I 0) fun x_3 =>
 brA x_3 (retA (.tup [(.agg [.e0]), (B false)]) h Q) (binA .eql (g c_2 0) (I 0) fun x_4 =>
 brA x_4 (lenA (g c_1 2) fun x_5 =>
 binA .lss (g c_2 1) x_5 fun x_6 =>
 brA x_6 (idxA 1 (g c_1 2) (g c_2 1) h fun p_7 =>
 loadG 1 p_7 h fun c_8 =>
 retA (.tup [(.agg [(g c_8 0)]), (B true)]) h Q) (retA (.tup [(.agg [.e0]), (B false)]) h Q)) (binA .eql (g c_2 0) (I 1) fun x_9 =>
 brA x_9 (lenA (g c_1 1) fun x_10 =>
 binA .lss (g c_2 1) x_10 fun x_11 =>
 brA x_11 (idxA 1 (g c_1 1) (g c_2 1) h fun p_12 =>
 loadG 1 p_12 h fun c_13 =>
 retA (.tup [(.agg [(g c_13 0)]), (B true)]) h Q) (retA (.tup [(.agg [.e0]), (B false)]) h Q)) (binA .eql (g c_2 0) (I 2) fun x_14 =>
 brA x_14 (lenA (g c_1 0) fun x_15 =>
 binA .lss (g c_2 1) x_15 fun x_16 =>
 brA x_16 (idxA 2 (g c_1 0) (g c_2 1) h fun p_17 =>
 fldA 1 p_17 fun p_18 =>
 loadV p_18 h fun x_19 =>
 mkA 1 24 [.e0] x_19 x_19 h fun x_20 h_21 =>
 oneA x_20 <|
 retA (.tup [(.agg [x_20]), (B true)]) h_21 Q) (retA (.tup [(.agg [.e0]), (B false)]) h Q)) (retA (.tup [(.agg [.e0]), (B false)]) h Q))))
def c_vref02_head : Cfg := ⟨tab, [], [], [], [], []⟩
theorem vref02_head_eq (a0 a1 : AV) (h : Heap) (Q : AV → Heap → Prop) : abody prog c_vref02_head f102 [a0, a1] h Q = vref02_head a0 a1 h Q := by kernel_rfl
theorem vref02_head_ok : fnB c_vref02_head f102 = true := by kernel_rfl
theorem vref02_head_call {a0 a1 : AV} {h : Heap} {Q : AV → Heap → Prop} (hk : vref02_head a0 a1 h Q) : ACalls prog n_vref02_head [a0, a1] h Q := contract (cf := c_vref02_head) tab_ok prog_mixed func102 vref02_head_ok (Eq.mpr (vref02_head_eq a0 a1 h Q) hk)
def sorts_Size (a0 : AV) (h : Heap) (Q : AV → Heap → Prop) : Prop :=
 aggA 1 a0 fun c_1 =>
 newA 1 [(I 0)] h fun p_2 h_3 =>
 oneA (I 60) <|
 storeG p_2 [(I 60)] h_3 fun h_4 =>
 callS prog n_sorts_measure [(.agg [(g c_1 0)]), p_2] h_4 fun r_5 h_6 =>
 loadV p_2 h_6 fun x_7 =>
 binA .lss x_7 (I 0) fun x_8 =>
 brA x_8 (retA (.tup [(I 61), (I 0)]) h_6 Q) (loadV p_2 h_6 fun x_9 =>
 binA .sub (I 60) x_9 fun x_10 =>
 retA (.tup [x_10, r_5]) h_6 Q)
def c_sorts_Size : Cfg := ⟨tab, [4], [], [], [], []⟩
theorem sorts_Size_eq (a0 : AV) (h : Heap) (Q : AV → Heap → Prop) : abody prog c_sorts_Size f142 [a0] h Q = sorts_Size a0 h Q := by kernel_rfl
theorem sorts_Size_ok : fnB c_sorts_Size f142 = true := by kernel_rfl
theorem sorts_Size_call {a0 : AV} {h : Heap} {Q : AV → Heap → Prop} (hk : sorts_Size a0 h Q) : ACalls prog n_sorts_Size [a0] h Q := contract (cf := c_sorts_Size) tab_ok prog_mixed func142 sorts_Size_ok (Eq.mpr (sorts_Size_eq a0 h Q) hk)
def sorts_all (a0 a1 : AV) (h : Heap) (Q : AV → Heap → Prop) : Prop :=
 aggA 1 a0 fun c_1 =>
 lenA (g c_1 0) fun x_2 =>
 loopS (fun s_3 h_4 K_5 =>
 binA .lss (g s_3 0) x_2 fun x_6 =>
 brA x_6 (idxA 1 (g c_1 0) (g s_3 0) h_4 fun p_7 =>
 loadG 1 p_7 h_4 fun c_8 =>
 callS prog n_sorts_all [(.agg [(g c_8 0)]), a1] h_4 fun r_9 h_10 =>
 notA r_9 fun x_11 =>
 brA x_11 (retA (B false) h_10 Q) (binA .add (g s_3 0) (I 1) fun x_12 =>
 K_5 [x_12] h_10)) (callV prog a1 [(.agg [(g c_1 0)])] h_4 fun r_13 h_14 =>
 retA r_13 h_14 Q)) [(I 0)] h
def c_sorts_all : Cfg := ⟨tab, [], [(2, ⟨[10], [], [4, 6, 10, 11, 12, 13, 14, 15, 16, 17, 18]⟩)], [], [], []⟩
theorem sorts_all_eq (a0 a1 : AV) (h : Heap) (Q : AV → Heap → Prop) : abody prog c_sorts_all f151 [a0, a1] h Q = sorts_all a0 a1 h Q := by kernel_rfl
theorem sorts_all_ok : fnB c_sorts_all f151 = true := by kernel_rfl
theorem sorts_all_call {a0 a1 : AV} {h : Heap} {Q : AV → Heap → Prop} (hk : sorts_all a0 a1 h Q) : ACalls prog n_sorts_all [a0, a1] h Q := contract (cf := c_sorts_all) tab_ok prog_mixed func151 sorts_all_ok (Eq.mpr (sorts_all_eq a0 a1 h Q) hk)
def sorts_Check_1 (a0 : AV) (h : Heap) (Q : AV → Heap → Prop) : Prop :=
 aggA 1 a0 fun c_1 =>
 lenA (g c_1 0) fun x_2 =>
 binA .leq x_2 (I 8) fun x_3 =>
 retA x_3 h Q
def c_sorts_Check_1 : Cfg := ⟨tab, [], [], [], [], []⟩
theorem sorts_Check_1_eq (a0 : AV) (h : Heap) (Q : AV → Heap → Prop) : abody prog c_sorts_Check_1 f152 [a0] h Q = sorts_Check_1 a0 h Q := by kernel_rfl
theorem sorts_Check_1_ok : fnB c_sorts_Check_1 f152 = true := by kernel_rfl
theorem sorts_Check_1_call {a0 : AV} {h : Heap} {Q : AV → Heap → Prop} (hk : sorts_Check_1 a0 h Q) : ACalls prog n_sorts_Check_1 [a0] h Q := contract (cf := c_sorts_Check_1) tab_ok prog_mixed func152 sorts_Check_1_ok (Eq.mpr (sorts_Check_1_eq a0 h Q) hk)
def term_Name (a0 : AV) (h : Heap) (Q : AV → Heap → Prop) : Prop :=
 lenS a0 fun x_1 =>
 binA .eql x_1 (I 0) fun x_2 =>
 brA x_2 (retA (B false) h Q) (lenS a0 fun x_3 =>
 binA .gtr x_3 (I 24) fun x_4 =>
 brA x_4 (retA (B false) h Q) (strA a0 (I 0) fun x_5 =>
 binA .lss x_5 (.val (.int .u8 97)) fun x_6 =>
 brA x_6 (retA (B false) h Q) (strA a0 (I 0) fun x_7 =>
 binA .gtr x_7 (.val (.int .u8 122)) fun x_8 =>
 brA x_8 (retA (B false) h Q) (lenS a0 fun x_9 =>
 loopS (fun s_10 h_11 K_12 =>
 binA .lss (g s_10 0) x_9 fun x_13 =>
 brA x_13 (strA a0 (g s_10 0) fun x_14 =>
 binA .lss x_14 (.val (.int .u8 97)) fun x_15 =>
 brA x_15 (binA .lss x_14 (.val (.int .u8 48)) fun x_16 =>
 brA x_16 (binA .neq x_14 (.val (.int .u8 95)) fun x_17 =>
 brA x_17 (retA (B false) h_11 Q) (binA .add (g s_10 0) (I 1) fun x_18 =>
 K_12 [x_18] h_11)) (binA .gtr x_14 (.val (.int .u8 57)) fun x_19 =>
 brA x_19 (binA .neq x_14 (.val (.int .u8 95)) fun x_20 =>
 brA x_20 (retA (B false) h_11 Q) (binA .add (g s_10 0) (I 1) fun x_21 =>
 K_12 [x_21] h_11)) (binA .add (g s_10 0) (I 1) fun x_22 =>
 K_12 [x_22] h_11))) (binA .gtr x_14 (.val (.int .u8 122)) fun x_23 =>
 brA x_23 (binA .lss x_14 (.val (.int .u8 48)) fun x_24 =>
 brA x_24 (binA .neq x_14 (.val (.int .u8 95)) fun x_25 =>
 brA x_25 (retA (B false) h_11 Q) (binA .add (g s_10 0) (I 1) fun x_26 =>
 K_12 [x_26] h_11)) (binA .gtr x_14 (.val (.int .u8 57)) fun x_27 =>
 brA x_27 (binA .neq x_14 (.val (.int .u8 95)) fun x_28 =>
 brA x_28 (retA (B false) h_11 Q) (binA .add (g s_10 0) (I 1) fun x_29 =>
 K_12 [x_29] h_11)) (binA .add (g s_10 0) (I 1) fun x_30 =>
 K_12 [x_30] h_11))) (binA .add (g s_10 0) (I 1) fun x_31 =>
 K_12 [x_31] h_11))) (retA (B true) h_11 Q)) [(I 0)] h))))
def c_term_Name : Cfg := ⟨tab, [], [(4, ⟨[25], [], [2, 3, 4, 25, 26, 27, 28, 29, 30, 31, 32, 33, 34, 35, 36, 37, 38, 39, 40, 41, 42, 43, 44, 45, 46, 47, 48, 49]⟩)], [], [], []⟩
theorem term_Name_eq (a0 : AV) (h : Heap) (Q : AV → Heap → Prop) : abody prog c_term_Name f107 [a0] h Q = term_Name a0 h Q := by kernel_rfl
theorem term_Name_ok : fnB c_term_Name f107 = true := by kernel_rfl
theorem term_Name_call {a0 : AV} {h : Heap} {Q : AV → Heap → Prop} (hk : term_Name a0 h Q) : ACalls prog n_term_Name [a0] h Q := contract (cf := c_term_Name) tab_ok prog_mixed func107 term_Name_ok (Eq.mpr (term_Name_eq a0 h Q) hk)
def term_Place_head (a0 a1 : AV) (h : Heap) (Q : AV → Heap → Prop) : Prop :=
 aggA 3 a0 fun c_1 =>
 aggA 3 a1 fun c_2 =>
 binA .lss (g c_2 1) (I 0) fun x_3 =>
 brA x_3 (retA (.tup [(.agg [.e0]), (B false)]) h Q) (binA .eql (g c_2 0) (I 0) fun x_4 =>
 brA x_4 (lenA (g c_1 2) fun x_5 =>
 binA .lss (g c_2 1) x_5 fun x_6 =>
 brA x_6 (idxA 1 (g c_1 2) (g c_2 1) h fun p_7 =>
 loadG 1 p_7 h fun c_8 =>
 retA (.tup [(.agg [(g c_8 0)]), (B true)]) h Q) (binA .eql (g c_2 0) (I 1) fun x_9 =>
 brA x_9 (lenA (g c_1 1) fun x_10 =>
 binA .lss (g c_2 1) x_10 fun x_11 =>
 brA x_11 (idxA 1 (g c_1 1) (g c_2 1) h fun p_12 =>
 loadG 1 p_12 h fun c_13 =>
 retA (.tup [(.agg [(g c_13 0)]), (B true)]) h Q) (binA .eql (g c_2 0) (I 2) fun x_14 =>
 brA x_14 (lenA (g c_1 0) fun x_15 =>
 binA .lss (g c_2 1) x_15 fun x_16 =>
 brA x_16 (idxA 2 (g c_1 0) (g c_2 1) h fun p_17 =>
 fldA 1 p_17 fun p_18 =>
 loadV p_18 h fun x_19 =>
 mkA 1 24 [.e0] x_19 x_19 h fun x_20 h_21 =>
 oneA x_20 <|
 retA (.tup [(.agg [x_20]), (B true)]) h_21 Q) (retA (.tup [(.agg [.e0]), (B false)]) h Q)) (retA (.tup [(.agg [.e0]), (B false)]) h Q))) (binA .eql (g c_2 0) (I 2) fun x_22 =>
 brA x_22 (lenA (g c_1 0) fun x_23 =>
 binA .lss (g c_2 1) x_23 fun x_24 =>
 brA x_24 (idxA 2 (g c_1 0) (g c_2 1) h fun p_25 =>
 fldA 1 p_25 fun p_26 =>
 loadV p_26 h fun x_27 =>
 mkA 1 24 [.e0] x_27 x_27 h fun x_28 h_29 =>
 oneA x_28 <|
 retA (.tup [(.agg [x_28]), (B true)]) h_29 Q) (retA (.tup [(.agg [.e0]), (B false)]) h Q)) (retA (.tup [(.agg [.e0]), (B false)]) h Q)))) (binA .eql (g c_2 0) (I 1) fun x_30 =>
 brA x_30 (lenA (g c_1 1) fun x_31 =>
 binA .lss (g c_2 1) x_31 fun x_32 =>
 brA x_32 (idxA 1 (g c_1 1) (g c_2 1) h fun p_33 =>
 loadG 1 p_33 h fun c_34 =>
 retA (.tup [(.agg [(g c_34 0)]), (B true)]) h Q) (binA .eql (g c_2 0) (I 2) fun x_35 =>
 brA x_35 (lenA (g c_1 0) fun x_36 =>
 binA .lss (g c_2 1) x_36 fun x_37 =>
 brA x_37 (idxA 2 (g c_1 0) (g c_2 1) h fun p_38 =>
 fldA 1 p_38 fun p_39 =>
 loadV p_39 h fun x_40 =>
 mkA 1 24 [.e0] x_40 x_40 h fun x_41 h_42 =>
 oneA x_41 <|
 retA (.tup [(.agg [x_41]), (B true)]) h_42 Q) (retA (.tup [(.agg [.e0]), (B false)]) h Q)) (retA (.tup [(.agg [.e0]), (B false)]) h Q))) (binA .eql (g c_2 0) (I 2) fun x_43 =>
 brA x_43 (lenA (g c_1 0) fun x_44 =>
 binA .lss (g c_2 1) x_44 fun x_45 =>
 brA x_45 (idxA 2 (g c_1 0) (g c_2 1) h fun p_46 =>
 fldA 1 p_46 fun p_47 =>
 loadV p_47 h fun x_48 =>
 mkA 1 24 [.e0] x_48 x_48 h fun x_49 h_50 =>
 oneA x_49 <|
 retA (.tup [(.agg [x_49]), (B true)]) h_50 Q) (retA (.tup [(.agg [.e0]), (B false)]) h Q)) (retA (.tup [(.agg [.e0]), (B false)]) h Q))))
def c_term_Place_head : Cfg := ⟨tab, [], [], [], [], []⟩
theorem term_Place_head_eq (a0 a1 : AV) (h : Heap) (Q : AV → Heap → Prop) : abody prog c_term_Place_head f186 [a0, a1] h Q = term_Place_head a0 a1 h Q := by kernel_rfl
theorem term_Place_head_ok : fnB c_term_Place_head f186 = true := by kernel_rfl
theorem term_Place_head_call {a0 a1 : AV} {h : Heap} {Q : AV → Heap → Prop} (hk : term_Place_head a0 a1 h Q) : ACalls prog n_term_Place_head [a0, a1] h Q := contract (cf := c_term_Place_head) tab_ok prog_mixed func186 term_Place_head_ok (Eq.mpr (term_Place_head_eq a0 a1 h Q) hk)
def sorts_Same (a0 a1 : AV) (h : Heap) (Q : AV → Heap → Prop) : Prop :=
 aggA 1 a0 fun c_1 =>
 aggA 1 a1 fun c_2 =>
 callS prog n_sorts_Size [(.agg [(g c_1 0)])] h fun r_3 h_4 =>
 tupA r_3 0 fun x_5 =>
 tupA r_3 1 fun x_6 =>
 callS prog n_sorts_Size [(.agg [(g c_2 0)])] h_4 fun r_7 h_8 =>
 tupA r_7 0 fun x_9 =>
 tupA r_7 1 fun x_10 =>
 binA .leq x_5 (I 60) fun x_11 =>
 brA x_11 (binA .eql x_5 x_9 fun x_12 =>
 brA x_12 (callS prog n_sorts_same [(.agg [(g c_1 0)]), (.agg [(g c_2 0)])] h_8 fun r_13 h_14 =>
 retA r_13 h_14 Q) (retA (B false) h_8 Q)) (retA (B false) h_8 Q)
def c_sorts_Same : Cfg := ⟨tab, [], [], [], [], []⟩
theorem sorts_Same_eq (a0 a1 : AV) (h : Heap) (Q : AV → Heap → Prop) : abody prog c_sorts_Same f94 [a0, a1] h Q = sorts_Same a0 a1 h Q := by kernel_rfl
theorem sorts_Same_ok : fnB c_sorts_Same f94 = true := by kernel_rfl
theorem sorts_Same_call {a0 a1 : AV} {h : Heap} {Q : AV → Heap → Prop} (hk : sorts_Same a0 a1 h Q) : ACalls prog n_sorts_Same [a0, a1] h Q := contract (cf := c_sorts_Same) tab_ok prog_mixed func94 sorts_Same_ok (Eq.mpr (sorts_Same_eq a0 a1 h Q) hk)
def vref01_depth (a0 : AV) (h : Heap) (Q : AV → Heap → Prop) : Prop :=
 aggA 1 a0 fun c_1 =>
 lenA (g c_1 0) fun x_2 =>
 loopS (fun s_3 h_4 K_5 =>
 binA .lss (g s_3 1) x_2 fun x_6 =>
 brA x_6 (idxA 1 (g c_1 0) (g s_3 1) h_4 fun p_7 =>
 loadG 1 p_7 h_4 fun c_8 =>
 callS prog n_vref01_depth [(.agg [(g c_8 0)])] h_4 fun r_9 h_10 =>
 maxA (g s_3 0) r_9 fun x_11 =>
 binA .add (g s_3 1) (I 1) fun x_12 =>
 K_5 [x_11, x_12] h_10) (binA .add (g s_3 0) (I 1) fun x_13 =>
 retA x_13 h_4 Q)) [(I 0), (I 0)] h
def c_vref01_depth : Cfg := ⟨tab, [], [(3, ⟨[3, 9], [], [3, 5, 9, 10, 11, 12, 13, 14, 15, 16, 17]⟩)], [], [], []⟩
theorem vref01_depth_eq (a0 : AV) (h : Heap) (Q : AV → Heap → Prop) : abody prog c_vref01_depth f100 [a0] h Q = vref01_depth a0 h Q := by kernel_rfl
theorem vref01_depth_ok : fnB c_vref01_depth f100 = true := by kernel_rfl
theorem vref01_depth_call {a0 : AV} {h : Heap} {Q : AV → Heap → Prop} (hk : vref01_depth a0 h Q) : ACalls prog n_vref01_depth [a0] h Q := contract (cf := c_vref01_depth) tab_ok prog_mixed func100 vref01_depth_ok (Eq.mpr (vref01_depth_eq a0 h Q) hk)
def vref01_few (a0 : AV) (h : Heap) (Q : AV → Heap → Prop) : Prop :=
 aggA 1 a0 fun c_1 =>
 lenA (g c_1 0) fun x_2 =>
 loopS (fun s_3 h_4 K_5 =>
 binA .lss (g s_3 0) x_2 fun x_6 =>
 brA x_6 (idxA 1 (g c_1 0) (g s_3 0) h_4 fun p_7 =>
 loadG 1 p_7 h_4 fun c_8 =>
 callS prog n_vref01_few [(.agg [(g c_8 0)])] h_4 fun r_9 h_10 =>
 notA r_9 fun x_11 =>
 brA x_11 (retA (B false) h_10 Q) (binA .add (g s_3 0) (I 1) fun x_12 =>
 K_5 [x_12] h_10)) (lenA (g c_1 0) fun x_13 =>
 binA .leq x_13 (I 8) fun x_14 =>
 retA x_14 h_4 Q)) [(I 0)] h
def c_vref01_few : Cfg := ⟨tab, [], [(2, ⟨[8], [], [2, 4, 8, 9, 10, 11, 12, 13, 14, 15]⟩)], [], [], []⟩
theorem vref01_few_eq (a0 : AV) (h : Heap) (Q : AV → Heap → Prop) : abody prog c_vref01_few f101 [a0] h Q = vref01_few a0 h Q := by kernel_rfl
theorem vref01_few_ok : fnB c_vref01_few f101 = true := by kernel_rfl
theorem vref01_few_call {a0 : AV} {h : Heap} {Q : AV → Heap → Prop} (hk : vref01_few a0 h Q) : ACalls prog n_vref01_few [a0] h Q := contract (cf := c_vref01_few) tab_ok prog_mixed func101 vref01_few_ok (Eq.mpr (vref01_few_eq a0 h Q) hk)
def sorts_measure (a0 a1 : AV) (h : Heap) (Q : AV → Heap → Prop) : Prop :=
 aggA 1 a0 fun c_1 =>
 nilA a1 <|
 loadV a1 h fun x_2 =>
 binA .sub x_2 (I 1) fun x_3 =>
 nilA a1 <|
 oneA x_3 <|
 storeG a1 [x_3] h fun h_4 =>
 lenA (g c_1 0) fun x_5 =>
 loopS (fun s_6 h_7 K_8 =>
 binA .lss (g s_6 1) x_5 fun x_9 =>
 brA x_9 (idxA 1 (g c_1 0) (g s_6 1) h_7 fun p_10 =>
 loadG 1 p_10 h_7 fun c_11 =>
 nilA a1 <|
 loadV a1 h_7 fun x_12 =>
 binA .lss x_12 (I 0) fun x_13 =>
 brA x_13 (retA (I 0) h_7 Q) (callS prog n_sorts_measure [(.agg [(g c_11 0)]), a1] h_7 fun r_14 h_15 =>
 maxA (g s_6 0) r_14 fun x_16 =>
 binA .add (g s_6 1) (I 1) fun x_17 =>
 K_8 [x_16, x_17] h_15)) (binA .add (g s_6 0) (I 1) fun x_18 =>
 retA x_18 h_7 Q)) [(I 0), (I 0)] h_4
def c_sorts_measure : Cfg := ⟨tab, [], [(4, ⟨[5, 16], [], [4, 5, 7, 16, 17, 18, 19, 20, 21, 22, 23, 24, 25, 26, 27, 28, 29]⟩)], [], [], []⟩
theorem sorts_measure_eq (a0 a1 : AV) (h : Heap) (Q : AV → Heap → Prop) : abody prog c_sorts_measure f180 [a0, a1] h Q = sorts_measure a0 a1 h Q := by kernel_rfl
theorem sorts_measure_ok : fnB c_sorts_measure f180 = true := by kernel_rfl
theorem sorts_measure_call {a0 a1 : AV} {h : Heap} {Q : AV → Heap → Prop} (hk : sorts_measure a0 a1 h Q) : ACalls prog n_sorts_measure [a0, a1] h Q := contract (cf := c_sorts_measure) tab_ok prog_mixed func180 sorts_measure_ok (Eq.mpr (sorts_measure_eq a0 a1 h Q) hk)
def sorts_same (a0 a1 : AV) (h : Heap) (Q : AV → Heap → Prop) : Prop :=
 aggA 1 a0 fun c_1 =>
 aggA 1 a1 fun c_2 =>
 lenA (g c_1 0) fun x_3 =>
 lenA (g c_2 0) fun x_4 =>
 binA .neq x_3 x_4 fun x_5 =>
 brA x_5 (retA (B false) h Q) (lenA (g c_1 0) fun x_6 =>
 loopS (fun s_7 h_8 K_9 =>
 binA .lss (g s_7 0) x_6 fun x_10 =>
 brA x_10 (idxA 1 (g c_1 0) (g s_7 0) h_8 fun p_11 =>
 loadG 1 p_11 h_8 fun c_12 =>
 idxA 1 (g c_2 0) (g s_7 0) h_8 fun p_13 =>
 loadG 1 p_13 h_8 fun c_14 =>
 callS prog n_sorts_same [(.agg [(g c_12 0)]), (.agg [(g c_14 0)])] h_8 fun r_15 h_16 =>
 notA r_15 fun x_17 =>
 brA x_17 (retA (B false) h_16 Q) (binA .add (g s_7 0) (I 1) fun x_18 =>
 K_9 [x_18] h_16)) (retA (B true) h_8 Q)) [(I 0)] h)
def c_sorts_same : Cfg := ⟨tab, [], [(4, ⟨[16], [], [4, 5, 16, 17, 18, 19, 20, 21, 22, 23, 24, 25, 26, 27, 28, 29, 30, 31]⟩)], [(6, [0, 1, 2, 3, 4, 5, 6, 7, 8, 9, 10, 11])], [20, 22, 23, 25, 27, 28], []⟩
theorem sorts_same_eq (a0 a1 : AV) (h : Heap) (Q : AV → Heap → Prop) : abody prog c_sorts_same f143 [a0, a1] h Q = sorts_same a0 a1 h Q := by kernel_rfl
theorem sorts_same_ok : fnB c_sorts_same f143 = true := by kernel_rfl
theorem sorts_same_call {a0 a1 : AV} {h : Heap} {Q : AV → Heap → Prop} (hk : sorts_same a0 a1 h Q) : ACalls prog n_sorts_same [a0, a1] h Q := contract (cf := c_sorts_same) tab_ok prog_mixed func143 sorts_same_ok (Eq.mpr (sorts_same_eq a0 a1 h Q) hk)
end Am
