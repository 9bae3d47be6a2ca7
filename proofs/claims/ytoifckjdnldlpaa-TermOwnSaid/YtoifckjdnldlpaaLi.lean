/- The chapter's example is met. -/
import Derived.Test.YtoifckjdnldlpaaLh
set_option linter.unusedVariables false
set_option linter.unusedSimpArgs false
namespace Am
open Go Go.Proofs.Try
open Rt (eqR eqRL eqR_iff)
theorem vlaw02_variable_c (n : Int) (us : List Tm) {x : AV} {h : Heap} (hr : Ref h h x (.rs 3 (tmCs us))) (h1 : ∀ k, oneA x k = k) {Q : AV → Heap → Prop} (hq : Q (tm (.mk (0, n) us)) h) : ACalls prog n_vlaw02_variable [I n, x] h Q := by
  refine vlaw02_variable_call ?_
  unfold vlaw02_variable
  simp [h1]
  exact retA_wk (Ref.aggs (.cons .refl (.cons .refl (.cons hr .nil)))) (HRef.refl _) hq
theorem vlaw02_symbol_c (n : Int) (us : List Tm) {x : AV} {h : Heap} (hr : Ref h h x (.rs 3 (tmCs us))) (h1 : ∀ k, oneA x k = k) {Q : AV → Heap → Prop} (hq : Q (tm (.mk (2, n) us)) h) : ACalls prog n_vlaw02_symbol [I n, x] h Q := by
  refine vlaw02_symbol_call ?_
  unfold vlaw02_symbol
  simp [h1]
  exact retA_wk (Ref.aggs (.cons .refl (.cons .refl (.cons hr .nil)))) (HRef.refl _) hq
def p0 : Pl := ⟨[(⟨#[97]⟩, 2), (⟨#[99]⟩, 0)], [], [.mk () [so], so]⟩
def t0 : Tm := .mk (0, 0) [.mk (0, 0) [.mk (0, 1) []]]
def c1 : Tm := .mk (2, 1) []
def a1c : Tm := .mk (2, 0) [c1]
def w0 : Tm := .mk (2, 0) [c1, .mk (2, 0) [c1, c1]]
theorem p0_ok : plB p0 = true := by
  unfold plB p0
  simp [symsB, inN, ByteArray.toList_eq]
  refine ⟨⟨?_, ?_⟩, ?_, ?_⟩ <;> decide
theorem sort_t0 : sortE p0 t0 = (so, 0) := by
  unfold sortE
  rw [p0_ok]
  rfl
theorem subst_t0 : substE t0 [a1c, c1] = (w0, 0) := by rfl
theorem vlaw02_alive_c {h : Heap} {Q : AV → Heap → Prop} (hq : Q (B true) h) : ACalls prog n_vlaw02_alive [] h Q := by
  refine vlaw02_alive_call ?_
  unfold vlaw02_alive
  simp
  refine callS_of (vlaw02_variable_c 1 [] .e0 (fun k => rfl) ?_)
  simp [tm, tmC, tmCs]
  refine callS_of (vlaw02_variable_c 0 [.mk (0, 1) []] .refl (fun k => rfl) ?_)
  simp [tm, tmC, tmCs]
  refine callS_of (vlaw02_variable_c 0 [.mk (0, 0) [.mk (0, 1) []]] .refl (fun k => rfl) ?_)
  simp [tm, tmC, tmCs]
  refine callS_wk (args' := [pl p0, tm t0]) (.cons (Ref.aggs (.cons .refl (.cons .e0 (.cons (Ref.els (.cons (.cons (Ref.els (.cons (.cons .e0 .nil) .nil) ?_) .nil) (.cons (.cons .e0 .nil) .nil)) ?_) .nil)))) (.cons .refl .nil)) (HRef.refl _) ?_
  · intro i hi; simp at hi; subst hi; rfl
  · intro i hi; match i, hi with
    | 0, _ => rfl
    | 1, _ => rfl
  refine term_Sort_c p0 t0 ?_
  rw [sort_t0]
  simp [sr]
  refine callS_of (vlaw02_symbol_c 1 [] .e0 (fun k => rfl) ?_)
  simp [tm, tmC, tmCs]
  refine callS_of (vlaw02_symbol_c 0 [c1] .refl (fun k => rfl) ?_)
  refine callS_of (vlaw02_symbol_c 1 [] .e0 (fun k => rfl) ?_)
  simp [tm, tmC, tmCs, c1]
  refine callS_of ?_
  show ACalls prog n_term_Subst [tm t0, .rs 3 (tmCs [a1c, c1])] h _
  refine term_Subst_c t0 [a1c, c1] (by simp) ?_
  rw [subst_t0]
  simp [tm]
  refine callS_of (vlaw02_symbol_c 1 [] .e0 (fun k => rfl) ?_)
  refine callS_of (vlaw02_symbol_c 1 [] .e0 (fun k => rfl) ?_)
  refine callS_of (vlaw02_symbol_c 1 [] .e0 (fun k => rfl) ?_)
  simp [tm, tmC, tmCs]
  refine callS_of (vlaw02_symbol_c 0 [c1, c1] .refl (fun k => rfl) ?_)
  simp [tm, tmC, tmCs, c1]
  refine callS_of (vlaw02_symbol_c 0 [c1, .mk (2, 0) [c1, c1]] .refl (fun k => rfl) ?_)
  simp [tm, tmC]
  refine callS_of ?_
  show ACalls prog n_term_Size [tm w0] h _
  refine term_Size_c w0 ?_
  have e1 : szN 100000 w0 = 5 := by decide
  have e2 : srC so = .rs 1 [] := rfl
  rw [e1, e2]
  simp
  refine callS_of ?_
  show ACalls prog n_vref02_Same [tm w0, tm w0] h _
  refine vref02_Same_c w0 w0 ?_
  have e3 : (decide (w0.nodes ≤ 100000) && decide (w0.nodes ≤ 100000) && eqR w0 w0) = true := by decide
  rw [e3]
  simp
  exact retA_of hq
end Am
