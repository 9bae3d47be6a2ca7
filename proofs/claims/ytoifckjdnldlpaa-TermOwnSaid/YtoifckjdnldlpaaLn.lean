/- TermSelf answers true. -/
import Derived.Test.YtoifckjdnldlpaaLm
set_option linter.unusedVariables false
set_option linter.unusedSimpArgs false
namespace Am
open Go Go.Proofs.Try
open Rt (eqR eqRL eqR_iff)
def selfA (k : Nat) : List Tm := (List.range k).map fun i : Nat => .mk (0, (i : Int)) []
@[simp] theorem selfA_len (k : Nat) : (selfA k).length = k := by simp [selfA]
theorem selfA_succ (k : Nat) : selfA (k + 1) = selfA k ++ [.mk (0, (k : Int)) []] := by simp [selfA, List.range_succ]
theorem selfA_get {k j : Nat} (hj : j < k) : (selfA k).getD j default = .mk (0, (j : Int)) [] := by
  simp [selfA, List.getD_eq_getElem?_getD, hj]
theorem selfA_bigs (k : Nat) : bigs (selfA k) = false := by
  simp only [bigs, List.any_eq_false, selfA, List.mem_map]
  rintro t ⟨i, _, rfl⟩
  simp [Rt.nodes, Rt.nodesL]
theorem sub_self (n : Nat) (t : Tm) : vok n t = true → sub (selfA n) t = t := by
  refine Rt.ind (P := fun t => vok n t = true → sub (selfA n) t = t) (fun a us ih hv => ?_) t
  simp only [vok, Bool.and_eq_true, Bool.or_eq_true, decide_eq_true_eq] at hv
  have key : ∀ l : List Tm, (∀ t, t ∈ l → vok n t = true → sub (selfA n) t = t) → vokL n l = true → subL (selfA n) l = l := by
    intro l
    induction l with
    | nil => intro _ _; rfl
    | cons u l ih2 =>
      intro h hl
      simp only [vokL, Bool.and_eq_true] at hl
      rw [subL, h u (by simp) hl.1, ih2 (fun t ht => h t (by simp [ht])) hl.2]
  rw [sub, key us ih hv.1]
  by_cases k0 : a.1 = 0
  · have h2 : 0 ≤ a.2 ∧ a.2 < n := by omega
    rw [if_pos k0, selfA_get (by omega)]
    have : ((0, ((a.2.toNat : Nat) : Int)) : Int × Int) = a := by
      obtain ⟨x, y⟩ := a
      simp only at k0 h2 ⊢
      rw [Int.toNat_of_nonneg h2.1, k0]
    simp only [Rt.lab, Rt.kids, List.nil_append, this]
  · rw [if_neg k0]
theorem SS.le_last {l : List Int} (h : SS l) (hl : 0 < l.length) : ∀ x, x ∈ l → x ≤ l[l.length - 1] := by
  intro x hx
  obtain ⟨j, hj, rfl⟩ := List.getElem_of_mem hx
  by_cases e : j = l.length - 1
  · subst e; exact Int.le_refl _
  · have := List.pairwise_iff_getElem.1 h j (l.length - 1) hj (by omega) (by omega)
    omega
theorem self_loop (t : Tm) (hl : t.nodes ≤ 100000) (hv : vok 1000 t = true) {h : Heap} {Q : AV → Heap → Prop} (hq : Q (B true) h) :
    loopS (fun s_18 h_19 K_20 =>
      binA .lss (g s_18 1) (I 1000) fun x_21 =>
      brA x_21 (callS prog n_vlaw02_variable [(g s_18 1), .e0] h_19 fun r_22 h_23 =>
      aggA 3 r_22 fun c_24 =>
      appA 3 40 (g s_18 0) (.rs 3 [[(g c_24 0), (g c_24 1), (g c_24 2)]]) h_23 fun x_25 h_26 =>
      binA .add (g s_18 1) (I 1) fun x_27 =>
      K_20 [x_25, x_27] h_26) (callS prog n_term_Subst [tm t, (g s_18 0)] h_19 fun r_28 h_29 =>
      tupA r_28 0 fun x_30 =>
      tupA r_28 1 fun x_31 =>
      aggA 3 x_30 fun c_32 =>
      binA .eql x_31 (I 0) fun x_33 =>
      brA x_33 (callS prog n_term_Same [tm t, (.agg [(g c_32 0), (g c_32 1), (g c_32 2)])] h_29 fun r_34 h_35 =>
      brA r_34 (callS prog n_vlaw02_alive [] h_35 fun r_36 h_37 =>
      retA r_36 h_37 Q) (retA (B false) h_35 Q)) (retA (B false) h_29 Q))) [.e0, (I 0)] h := by
  refine loop_up 1000 (fun k σ h' => ∃ x, σ = [x, I k] ∧ SlO 3 (tmCs (selfA k)) h x h') ⟨.e0, rfl, SlO.nil 3⟩ (fun k σ' h' ⟨x, e, _⟩ => by rw [e]; rfl) ?_
  rintro k σ' h' K hk ⟨x, rfl, hs⟩ hK
  by_cases hlt : k < 1000
  · have hlt' : (k : Int) < 1000 := by omega
    simp only [g_0, g_1, w_lss, hlt', decide_true, w_brA, if_true]
    refine callS_of (vlaw02_variable_c k [] .e0 (fun k => rfl) ?_)
    simp [tm, tmC]
    refine hs.app (by simp; omega) fun x2 h2 hs2 => ?_
    simp [wrap_k (k := k) (by omega)]
    refine hK hlt _ _ ⟨x2, rfl, ?_⟩
    rw [selfA_succ]
    have : tmCs (selfA k ++ [.mk (0, (k : Int)) []]) = tmCs (selfA k) ++ [[I 0, I k, .rs 3 (tmCs [])]] := by
      rw [tmCs_eq, tmCs_eq, List.map_append]; rfl
    rw [this]; exact hs2
  · have hkn : k = 1000 := by omega
    subst hkn
    have hs1 : substE t (selfA 1000) = (t, 0) := by
      unfold substE
      have h1 : ¬ 100000 < t.nodes := by omega
      rw [sub_self 1000 t hv, selfA_bigs, selfA_len, hv]
      simp [h1]
    simp
    obtain ⟨r1, r2⟩ := hs.wk (tmCs_sz _)
    refine callS_wk (args' := [tm t, .rs 3 (tmCs (selfA 1000))]) (.cons .refl (.cons r1 .nil)) r2 ?_
    refine term_Subst_c t (selfA 1000) (by simp) ?_
    rw [hs1]
    simp [tm]
    refine callS_of ?_
    simp only [tm_eta]
    refine term_Same_c t t ?_
    simp [hl, Rt.eqR_refl]
    exact callS_of (vlaw02_alive_c (retA_of hq))
theorem law_TermSelf (t : Tm) {h : Heap} {Q : AV → Heap → Prop} (hq : Q (B true) h) : ACalls prog 18 [tm t] h Q := by
  refine vlaw02_TermSelf_call ?_
  unfold vlaw02_TermSelf tm
  simp
  refine callS_of ?_
  simp only [tm_eta]
  refine term_Free_c t ?_
  unfold freeE
  by_cases hl : 100000 < t.nodes
  · simp [hl]; exact callS_of (vlaw02_alive_c (retA_of hq))
  cases hn : nng (occ t) with
  | false => simp [hl]; exact callS_of (vlaw02_alive_c (retA_of hq))
  | true =>
    simp [hl]
    have hss := (vars_spec t [] (by simp [SS])).1
    have hng := nng_vars t
    rw [hn] at hng
    have hall := vars_all 1000 t []
    simp only [List.all_nil, Bool.true_and] at hall
    have hlen := vars_len t []
    simp only [List.length_nil, Nat.zero_add] at hlen
    have hlast := hss.le_last
    generalize vars t [] = l at hss hng hall hlast hlen
    by_cases h0 : 0 < l.length
    · have h0' : (0 : Int) < l.length := by omega
      have w1 : IntKind.i64.wrap ((l.length : Int) - 1) = ((l.length - 1 : Nat) : Int) := by rw [wrap_i64 (by omega) (by omega)]; omega
      by_cases h1 : 1000 ≤ l[l.length - 1]
      · simp [h0', w1, h0, show l.length - 1 < l.length by omega, h1]; exact callS_of (vlaw02_alive_c (retA_of hq))
      · simp [h0', w1, h0, show l.length - 1 < l.length by omega, h1]
        refine self_loop t (by omega) ?_ hq
        rw [← hall, List.all_eq_true]
        intro x hx
        have := hlast h0 x hx
        simp only [nng, List.all_eq_true, decide_eq_true_eq] at hng
        have := hng x hx
        simp; omega
    · have h0' : ¬ (0 : Int) < l.length := by omega
      have hl0 : l = [] := List.eq_nil_of_length_eq_zero (by omega)
      subst hl0
      simp
      exact self_loop t (by omega) (by rw [← hall]; rfl) hq
end Am
