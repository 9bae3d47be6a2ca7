/- Contracts of Free; TermFree and TermSelf answer true. -/
import Derived.Test.YtoifckjdnldlpaaLl
import Derived.Test.YtoifckjdnldlpaaLj
set_option linter.unusedVariables false
set_option linter.unusedSimpArgs false
namespace Am
open Go Go.Proofs.Try
open Rt (eqR eqRL eqR_iff)
def freeE (t : Tm) : List Int × Int := if 100000 < t.nodes then ([], 3) else if !nng (occ t) then ([], 2) else (vars t [], 0)
theorem HRef.drop2 {h : Heap} {i j : Nat} {a b : Node} (hi : h i = none) (hj : (h.set i a) j = none) : HRef ((h.set i a).set j b) h := by
  have hji : j ≠ i := fun e => by subst e; rw [Heap.set_same] at hj; cases hj
  rw [Heap.set_ne hji] at hj
  refine HRef.sub fun k n hk => ?_
  have h1 : k ≠ j := fun e => by subst e; rw [hj] at hk; cases hk
  have h2 : k ≠ i := fun e => by subst e; rw [hi] at hk; cases hk
  rw [Heap.set_ne h1, Heap.set_ne h2]; exact hk
theorem FO.href {zs : List Int} {h h' : Heap} {i : Nat} (hi : h i = none) (hs : FO zs h i h') : HRef h' h := by
  obtain ⟨x, hs⟩ := hs
  rcases hs with ⟨_, _, rfl⟩ | ⟨_, id, hid, _, rfl⟩
  · exact HRef.drop hi
  · exact HRef.drop2 hi hid
theorem ret_e0 {h h' : Heap} {Q : AV → Heap → Prop} {n : Int} (hh : HRef h' h) (hq : Q (.tup [.rs 1 (ints []), I n]) h) : retA (.tup [.e0, .val (.int .i64 n)]) h' Q :=
  retA_wk (Ref.tups (.cons .e0 (.cons .refl .nil))) hh hq
theorem term_Free_c (t : Tm) {h : Heap} {Q : AV → Heap → Prop} (hq : Q (.tup [.rs 1 (ints (freeE t).1), I (freeE t).2]) h) : ACalls prog n_term_Free [tm t] h Q := by
  refine term_Free_call ?_
  unfold term_Free tm
  unfold freeE at hq
  simp
  refine callS_of ?_
  rw [tm_eta]
  refine term_large_c t ?_
  by_cases hl : 100000 < t.nodes
  · simp [hl]; exact ret_e0 (HRef.refl _) (by simpa [hl] using hq)
  simp [hl]
  intro i hi
  refine callS_of ?_
  have hol := occ_len t
  refine term_visit_free t (zs := []) (h := h) (i := i) ⟨.e0, SlO.nil 1⟩ (by simp; omega) (fun hv h2 hs => ?_) (fun hv ys h2 hs => ?_)
  · simp only [List.nil_append] at hs
    simp only [hl, hv, if_false, Bool.not_true, Bool.false_eq_true] at hq
    simp
    obtain ⟨x, hs⟩ := hs
    rw [w_loadV_op hs.cell]
    simp
    have hfl : (fr (occ t)).length ≤ (occ t).length := by
      have := Lib.compact_length_le ((occ t).mergeSort fun x y => decide (x ≤ y))
      simpa [fr] using this
    rw [← fr_vars] at hq
    rcases hs with ⟨he, rfl, rfl⟩ | ⟨hne, j, hj, rfl, rfl⟩
    · have h0 : occ t = [] := by cases ho : occ t with
        | nil => rfl
        | cons y r => rw [ho] at he; simp [ints] at he
      have hf : fr (occ t) = [] := by rw [h0]; simp [fr, Lib.compact, Lib.compactUpTo]
      rw [hf] at hq
      refine callS_of (sort_nil ?_)
      rw [w_loadV_op (Heap.set_same h i _)]
      simp
      refine callS_of (compact_nil ?_)
      exact ret_e0 (HRef.drop hi) hq
    · have hji : i ≠ j := fun e => by subst e; rw [Heap.set_same] at hj; cases hj
      have hjh : h j = none := by rw [Heap.set_ne (fun e => hji e.symm)] at hj; exact hj
      have e1 : (ints (occ t)).length = (occ t).length := ints_len _
      rw [e1]
      refine callS_of (sort_c (zs := occ t) (Heap.set_same _ j _) (by omega) ?_)
      rw [Heap.set_set]
      have hce : ∀ n, ((h.set i (.arr 1 [[.os j (occ t).length]])).set j n) i = some (.arr 1 [[.os j (occ t).length]]) := fun n => by rw [Heap.set_ne hji, Heap.set_same]
      rw [w_loadV_op (hce _)]
      simp
      have e2 : (occ t).length = ((occ t).mergeSort fun x y => decide (x ≤ y)).length := by simp
      generalize hz : ((occ t).mergeSort fun x y => decide (x ≤ y)) = zs at *
      have hcl := Lib.compact_length_le zs
      have hfr : fr (occ t) = Lib.compact zs := by simp [fr, hz]
      rw [e2]
      refine callS_of (compact_c (zs := zs) (Heap.set_same _ j _) (by omega) ?_ hcl)
      rw [Heap.set_set]
      rw [hfr] at hq
      refine retA_wk (Ref.tups (.cons (y := .rs 1 (ints (Lib.compact zs))) (.frz (Heap.set_same _ j _) hjh ?_ ?_ ?_ ?_) (.cons .refl .nil))) (HRef.drop2 hi ?_) hq
      · simp
      · simp
      · exact fun a ha => ints_sz _ a (by simpa using ha)
      · intro a b ha hb
        obtain rfl : b = 0 := by omega
        have : (iels (Lib.compact zs ++ List.replicate (zs.length - (Lib.compact zs).length) 0)).getD a [] = (ints (Lib.compact zs)).getD a [] := by
          have e : iels (Lib.compact zs ++ List.replicate (zs.length - (Lib.compact zs).length) 0) = ints (Lib.compact zs) ++ ints (List.replicate (zs.length - (Lib.compact zs).length) 0) := by simp [iels, ints]
          rw [e, List.getD_eq_getElem?_getD, List.getElem?_append_left (by simpa using ha), List.getD_eq_getElem?_getD]
        rw [this]; exact .refl
      · rw [Heap.set_ne (fun e => hji e.symm)]; exact hjh
  · simp
    exact ret_e0 (FO.href hi hs) (by simpa [hl, hv] using hq)
theorem vref02_Free_c (t : Tm) {h : Heap} {Q : AV → Heap → Prop} (hq : Q (.tup [.rs 1 (ints (freeE t).1), I (freeE t).2]) h) : ACalls prog n_vref02_Free [tm t] h Q := by
  refine vref02_Free_call ?_
  unfold vref02_Free tm
  unfold freeE at hq
  simp
  refine callS_of ?_
  rw [tm_eta]
  refine vref02_Large_c t ?_
  by_cases hl : 100000 < t.nodes
  · simp [hl]; exact ret_e0 (HRef.refl _) (by simpa [hl] using hq)
  simp [hl]
  refine callS_wk (args' := [tm t, .rs 1 (ints [])]) (.cons .refl (.cons .e0 .nil)) (HRef.refl _) ?_
  refine vref02_Variables_c t [] (by simp; omega) ?_
  have hv := (vars_spec t [] (by simp [SS])).1.head_neg
  rw [nng_vars] at hv
  simp only [hl, if_false] at hq
  cases hvs : vars t [] with
  | nil =>
    rw [hvs] at hv hq
    simp [hdNeg] at hv
    simp [ints]
    exact retA_of (by simpa [hv, ints] using hq)
  | cons y r =>
    rw [hvs] at hv hq
    simp [hdNeg] at hv
    by_cases hy : y < 0
    · simp [ints, hy]
      exact ret_e0 (HRef.refl _) (by simpa [hv, hy] using hq)
    · have hy2 : 0 ≤ y := by omega
      simp [ints, hy]
      exact retA_of (by simpa [hv, hy2, hy, ints] using hq)
theorem vlaw02_ints_c (l : List Int) (hl : l.length ≤ 4611686018427387904) {h : Heap} {Q : AV → Heap → Prop} (hq : Q (B true) h) : ACalls prog n_vlaw02_ints [.rs 1 (ints l), .rs 1 (ints l)] h Q := by
  refine vlaw02_ints_call ?_
  unfold vlaw02_ints
  simp
  refine loop_ix l.length (fun _ => True) trivial fun k hk _ K hK => ?_
  by_cases hlt : k < l.length
  · have hlt' : (k : Int) < l.length := by omega
    simp [hlt', hlt, wrap_k (k := k) (by omega)]
    exact hK hlt trivial
  · have hkn : k = l.length := by omega
    subst hkn
    simp
    exact retA_of hq
theorem freeE_len (t : Tm) : (freeE t).1.length ≤ 100000 := by
  unfold freeE
  have := vars_len t []
  simp only [List.length_nil, Nat.zero_add] at this
  split
  · simp
  split
  · simp
  · simp; omega
theorem law_TermFree (t : Tm) {h : Heap} {Q : AV → Heap → Prop} (hq : Q (B true) h) : ACalls prog 17 [tm t] h Q := by
  refine vlaw02_TermFree_call ?_
  unfold vlaw02_TermFree tm
  simp
  refine callS_of ?_
  simp only [tm_eta]
  refine vlaw02_different_c t fun b => ?_
  cases b with
  | true => simp; exact callS_of (vlaw02_alive_c (retA_of hq))
  | false =>
    simp
    refine callS_of (term_Free_c t ?_)
    simp
    refine callS_of (vref02_Free_c t ?_)
    simp
    refine callS_of (vlaw02_ints_c _ (by have := freeE_len t; omega) ?_)
    simp
    exact callS_of (vlaw02_alive_c (retA_of hq))
end Am
