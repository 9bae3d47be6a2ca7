/- Short texts of functions, made by program; each with its contract's rule. -/
import Derived.Test.YtoifckjdnldlpaaZG0
set_option linter.unusedVariables false
set_option linter.unusedSimpArgs false
namespace Am
open Go Go.Proofs.Try
def vlaw19_heavy (a0 : AV) (h : Heap) (Q : AV → Heap → Prop) : Prop :=
 aggA 2 a0 fun c_1 =>
 callS prog n_vref03_Is [(.agg [(g c_1 0), (g c_1 1)])] h fun r_2 h_3 =>
 brA r_2 (callS prog n_vlaw19_small [(.agg [(g c_1 0), (g c_1 1)])] h_3 fun r_4 h_5 =>
 notA r_4 fun x_6 =>
 retA x_6 h_5 Q) (retA (B false) h_3 Q)
def c_vlaw19_heavy : Cfg := ⟨tab, [], [], [], [], []⟩
theorem vlaw19_heavy_eq (a0 : AV) (h : Heap) (Q : AV → Heap → Prop) : abody prog c_vlaw19_heavy f76 [a0] h Q = vlaw19_heavy a0 h Q := by kernel_rfl
theorem vlaw19_heavy_ok : fnB c_vlaw19_heavy f76 = true := by kernel_rfl
theorem vlaw19_heavy_call {a0 : AV} {h : Heap} {Q : AV → Heap → Prop} (hk : vlaw19_heavy a0 h Q) : ACalls prog n_vlaw19_heavy [a0] h Q := contract (cf := c_vlaw19_heavy) tab_ok prog_mixed func76 vlaw19_heavy_ok (Eq.mpr (vlaw19_heavy_eq a0 h Q) hk)
def vlaw19_small (a0 : AV) (h : Heap) (Q : AV → Heap → Prop) : Prop :=
 aggA 2 a0 fun c_1 =>
 lenA (g c_1 1) fun x_2 =>
 loopS (fun s_3 h_4 K_5 =>
 binA .lss (g s_3 1) x_2 fun x_6 =>
 brA x_6 (idxA 5 (g c_1 1) (g s_3 1) h_4 fun p_7 =>
 loadG 5 p_7 h_4 fun c_8 =>
 callS prog n_vref02_Nodes [(.agg [(g c_8 2), (g c_8 3), (g c_8 4)]), (I 400)] h_4 fun r_9 h_10 =>
 binA .add (g s_3 0) r_9 fun x_11 =>
 binA .add (g s_3 1) (I 1) fun x_12 =>
 K_5 [x_11, x_12] h_10) (binA .leq (g s_3 0) (I 150) fun x_13 =>
 retA x_13 h_4 Q)) [(I 0), (I 0)] h
def c_vlaw19_small : Cfg := ⟨tab, [], [(3, ⟨[3, 9], [], [3, 5, 9, 10, 11, 12, 13, 14, 15, 16, 17, 18]⟩)], [], [], []⟩
theorem vlaw19_small_eq (a0 : AV) (h : Heap) (Q : AV → Heap → Prop) : abody prog c_vlaw19_small f79 [a0] h Q = vlaw19_small a0 h Q := by kernel_rfl
theorem vlaw19_small_ok : fnB c_vlaw19_small f79 = true := by kernel_rfl
theorem vlaw19_small_call {a0 : AV} {h : Heap} {Q : AV → Heap → Prop} (hk : vlaw19_small a0 h Q) : ACalls prog n_vlaw19_small [a0] h Q := contract (cf := c_vlaw19_small) tab_ok prog_mixed func79 vlaw19_small_ok (Eq.mpr (vlaw19_small_eq a0 h Q) hk)
end Am
