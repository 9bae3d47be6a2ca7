/- Short texts of functions, made by program; each with its contract's rule. -/
import Derived.Test.YtoifckjdnldlpaaF02
set_option linter.unusedVariables false
set_option linter.unusedSimpArgs false
namespace Am
open Go Go.Proofs.Try
def term_Free (a0 : AV) (h : Heap) (Q : AV → Heap → Prop) : Prop :=
 aggA 3 a0 fun c_1 =>
 callS prog n_term_large [(.agg [(g c_1 0), (g c_1 1), (g c_1 2)])] h fun r_2 h_3 =>
 brA r_2 (retA (.tup [.e0, (I 3)]) h_3 Q) (newA 1 [.e0] h_3 fun p_4 h_5 =>
 callS prog n_term_visit [(.agg [(g c_1 0), (g c_1 1), (g c_1 2)]), (.fn 128 [p_4])] h_5 fun r_6 h_7 =>
 notA r_6 fun x_8 =>
 brA x_8 (retA (.tup [.e0, (I 2)]) h_7 Q) (loadV p_4 h_7 fun x_9 =>
 callS prog n_slices_Sort_int_int [x_9] h_7 fun r_10 h_11 =>
 loadV p_4 h_11 fun x_12 =>
 callS prog n_slices_Compact_int_int [x_12] h_11 fun r_13 h_14 =>
 retA (.tup [r_13, (I 0)]) h_14 Q))
def c_term_Free : Cfg := ⟨tab, [4], [], [], [], []⟩
theorem term_Free_eq (a0 : AV) (h : Heap) (Q : AV → Heap → Prop) : abody prog c_term_Free f62 [a0] h Q = term_Free a0 h Q := by kernel_rfl
theorem term_Free_ok : fnB c_term_Free f62 = true := by kernel_rfl
theorem term_Free_call {a0 : AV} {h : Heap} {Q : AV → Heap → Prop} (hk : term_Free a0 h Q) : ACalls prog n_term_Free [a0] h Q := contract (cf := c_term_Free) tab_ok prog_mixed func62 term_Free_ok (Eq.mpr (term_Free_eq a0 h Q) hk)
def vref02_Free (a0 : AV) (h : Heap) (Q : AV → Heap → Prop) : Prop :=
 aggA 3 a0 fun c_1 =>
 callS prog n_vref02_Large [(.agg [(g c_1 0), (g c_1 1), (g c_1 2)])] h fun r_2 h_3 =>
 brA r_2 (retA (.tup [.e0, (I 3)]) h_3 Q) (callS prog n_vref02_Variables [(.agg [(g c_1 0), (g c_1 1), (g c_1 2)]), .e0] h_3 fun r_4 h_5 =>
 lenA r_4 fun x_6 =>
 binA .gtr x_6 (I 0) fun x_7 =>
 brA x_7 (idxA 1 r_4 (I 0) h_5 fun p_8 =>
 loadV p_8 h_5 fun x_9 =>
 binA .lss x_9 (I 0) fun x_10 =>
 brA x_10 (retA (.tup [.e0, (I 2)]) h_5 Q) (retA (.tup [r_4, (I 0)]) h_5 Q)) (retA (.tup [r_4, (I 0)]) h_5 Q))
def c_vref02_Free : Cfg := ⟨tab, [], [], [], [], []⟩
theorem vref02_Free_eq (a0 : AV) (h : Heap) (Q : AV → Heap → Prop) : abody prog c_vref02_Free f63 [a0] h Q = vref02_Free a0 h Q := by kernel_rfl
theorem vref02_Free_ok : fnB c_vref02_Free f63 = true := by kernel_rfl
theorem vref02_Free_call {a0 : AV} {h : Heap} {Q : AV → Heap → Prop} (hk : vref02_Free a0 h Q) : ACalls prog n_vref02_Free [a0] h Q := contract (cf := c_vref02_Free) tab_ok prog_mixed func63 vref02_Free_ok (Eq.mpr (vref02_Free_eq a0 h Q) hk)
def vlaw02_ints (a0 a1 : AV) (h : Heap) (Q : AV → Heap → Prop) : Prop :=
 lenA a0 fun x_1 =>
 lenA a1 fun x_2 =>
 binA .neq x_1 x_2 fun x_3 =>
 brA x_3 (retA (B false) h Q) (lenA a0 fun x_4 =>
 loopS (fun s_5 h_6 K_7 =>
 binA .lss (g s_5 0) x_4 fun x_8 =>
 brA x_8 (idxA 1 a0 (g s_5 0) h_6 fun p_9 =>
 loadV p_9 h_6 fun x_10 =>
 idxA 1 a1 (g s_5 0) h_6 fun p_11 =>
 loadV p_11 h_6 fun x_12 =>
 binA .neq x_10 x_12 fun x_13 =>
 brA x_13 (retA (B false) h_6 Q) (binA .add (g s_5 0) (I 1) fun x_14 =>
 K_7 [x_14] h_6)) (retA (B true) h_6 Q)) [(I 0)] h)
def c_vlaw02_ints : Cfg := ⟨tab, [], [(4, ⟨[13], [], [4, 5, 13, 14, 15, 16, 17, 18, 19, 20, 21, 22, 23, 24, 25]⟩)], [(6, [0, 1, 2, 3, 4, 5, 6, 7, 8])], [18, 19, 22, 23], []⟩
theorem vlaw02_ints_eq (a0 a1 : AV) (h : Heap) (Q : AV → Heap → Prop) : abody prog c_vlaw02_ints f64 [a0, a1] h Q = vlaw02_ints a0 a1 h Q := by kernel_rfl
theorem vlaw02_ints_ok : fnB c_vlaw02_ints f64 = true := by kernel_rfl
theorem vlaw02_ints_call {a0 a1 : AV} {h : Heap} {Q : AV → Heap → Prop} (hk : vlaw02_ints a0 a1 h Q) : ACalls prog n_vlaw02_ints [a0, a1] h Q := contract (cf := c_vlaw02_ints) tab_ok prog_mixed func64 vlaw02_ints_ok (Eq.mpr (vlaw02_ints_eq a0 a1 h Q) hk)
def term_Free_1 (a0 a1 : AV) (h : Heap) (Q : AV → Heap → Prop) : Prop :=
 aggA 3 a0 fun c_1 =>
 binA .eql (g c_1 0) (I 0) fun x_2 =>
 brA x_2 (loadV a1 h fun x_3 =>
 oneA (g c_1 1) <|
 appA 1 8 x_3 (.rs 1 [[(g c_1 1)]]) h fun x_4 h_5 =>
 oneA x_4 <|
 storeG a1 [x_4] h_5 fun h_6 =>
 binA .neq (g c_1 0) (I 0) fun x_7 =>
 brA x_7 (retA (B true) h_6 Q) (binA .geq (g c_1 1) (I 0) fun x_8 =>
 retA x_8 h_6 Q)) (binA .neq (g c_1 0) (I 0) fun x_9 =>
 brA x_9 (retA (B true) h Q) (binA .geq (g c_1 1) (I 0) fun x_10 =>
 retA x_10 h Q))
def c_term_Free_1 : Cfg := ⟨tab, [], [], [], [], []⟩
theorem term_Free_1_eq (a0 a1 : AV) (h : Heap) (Q : AV → Heap → Prop) : abody prog c_term_Free_1 f128 [a0, a1] h Q = term_Free_1 a0 a1 h Q := by kernel_rfl
theorem term_Free_1_ok : fnB c_term_Free_1 f128 = true := by kernel_rfl
theorem term_Free_1_call {a0 a1 : AV} {h : Heap} {Q : AV → Heap → Prop} (hk : term_Free_1 a0 a1 h Q) : ACalls prog n_term_Free_1 [a0, a1] h Q := contract (cf := c_term_Free_1) tab_ok prog_mixed func128 term_Free_1_ok (Eq.mpr (term_Free_1_eq a0 a1 h Q) hk)
def vlaw02_turn (a0 : AV) (h : Heap) (Q : AV → Heap → Prop) : Prop :=
 lenA a0 fun x_1 =>
 loopS (fun s_2 h_3 K_4 =>
 binA .lss (g s_2 0) x_1 fun x_5 =>
 brA x_5 (idxA 3 a0 (g s_2 0) h_3 fun p_6 =>
 fldA 2 p_6 fun p_7 =>
 loadV p_7 h_3 fun x_8 =>
 callS prog n_vlaw02_turn [x_8] h_3 fun r_9 h_10 =>
 idxA 3 a0 (g s_2 0) h_10 fun p_11 =>
 fldA 1 p_11 fun p_12 =>
 loadV p_12 h_10 fun x_13 =>
 binA .xor x_13 (I 1) fun x_14 =>
 idxA 3 a0 (g s_2 0) h_10 fun p_15 =>
 fldA 1 p_15 fun p_16 =>
 oneA x_14 <|
 storeG p_16 [x_14] h_10 fun h_17 =>
 binA .add (g s_2 0) (I 1) fun x_18 =>
 K_4 [x_18] h_17) (retA (.tup []) h_3 Q)) [(I 0)] h
def c_vlaw02_turn : Cfg := ⟨tab, [], [(1, ⟨[5], [], [2, 5, 6, 7, 8, 9, 10, 11, 12, 13, 14, 15, 16, 17, 18, 19, 20, 21, 22, 23, 24]⟩)], [], [], []⟩
theorem vlaw02_turn_eq (a0 : AV) (h : Heap) (Q : AV → Heap → Prop) : abody prog c_vlaw02_turn f70 [a0] h Q = vlaw02_turn a0 h Q := by kernel_rfl
theorem vlaw02_turn_ok : fnB c_vlaw02_turn f70 = true := by kernel_rfl
theorem vlaw02_turn_call {a0 : AV} {h : Heap} {Q : AV → Heap → Prop} (hk : vlaw02_turn a0 h Q) : ACalls prog n_vlaw02_turn [a0] h Q := contract (cf := c_vlaw02_turn) tab_ok prog_mixed func70 vlaw02_turn_ok (Eq.mpr (vlaw02_turn_eq a0 h Q) hk)
end Am
