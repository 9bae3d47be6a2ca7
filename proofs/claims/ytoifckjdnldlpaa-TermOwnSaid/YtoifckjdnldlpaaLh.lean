/- Contracts: applications, counts, sizes of the reference, the chapter's example. -/
import Derived.Test.YtoifckjdnldlpaaLg
set_option linter.unusedVariables false
set_option linter.unusedSimpArgs false
namespace Am
open Go Go.Proofs.Try
open Rt (eqR eqRL eqR_iff)
theorem vref02_Size_c (t : Tm) {h : Heap} {Q : AV → Heap → Prop} (hq : Q (.tup [I (szN 100000 t), I (szD 100000 t)]) h) : ACalls prog n_vref02_Size [tm t] h Q := by
  refine vref02_Size_call ?_
  unfold vref02_Size tm
  simp
  refine callS_of ?_
  rw [tm_eta]
  refine vref02_Nodes_c t (m := 100000) (by omega) ?_
  unfold szN szD at hq
  by_cases hl : t.nodes ≤ 100000
  · have : decide ((100000 : Int) < ((min t.nodes (100000 + 1) : Nat) : Int)) = false := decide_eq_false (by omega)
    simp only [w_gtr, this, w_brA, Bool.false_eq_true, if_false]
    refine callS_of (vref02_Depth_c t (by omega) (retA_of ?_))
    have e : min t.nodes (100000 + 1) = t.nodes := by omega
    rw [e]
    simpa [hl] using hq
  · have : decide ((100000 : Int) < ((min t.nodes (100000 + 1) : Nat) : Int)) = true := decide_eq_true (by omega)
    simp only [w_gtr, this, w_brA, if_true]
    exact retA_of (by simpa [hl] using hq)
theorem vlaw02_is_c (a : Tm) (e : Int) (b : Tm) (f : Int) {h : Heap} {Q : AV → Heap → Prop} (hq : Q (B (decide (e = f) && (decide (a.nodes ≤ 100000) && decide (b.nodes ≤ 100000) && eqR a b))) h) : ACalls prog n_vlaw02_is [tm a, I e, tm b, I f] h Q := by
  refine vlaw02_is_call ?_
  unfold vlaw02_is tm
  simp
  by_cases he : e = f
  · simp [he]
    refine callS_of ?_
    simp only [tm_eta]
    exact vref02_Same_c a b (retA_of (by simpa [he] using hq))
  · simp [he]; exact retA_of (by simpa [he] using hq)
theorem vlaw02_different_c (t : Tm) {h : Heap} {Q : AV → Heap → Prop} (hq : ∀ b, Q (B b) h) : ACalls prog n_vlaw02_different [tm t] h Q := by
  refine vlaw02_different_call ?_
  unfold vlaw02_different tm
  simp
  refine callS_of ?_
  simp only [tm_eta]
  refine vref02_Large_c t ?_
  by_cases hl : 100000 < t.nodes
  · simp [hl]; exact retA_of (hq _)
  · simp [hl]
    refine callS_of (vref02_Nodes_c t (m := 4000) (by omega) ?_)
    simp
    exact retA_of (hq _)
/-! ### Apply -/
def appE (t : Tm) (args : List Tm) : Tm × Int := if 100000 < t.nodes + Rt.nodesL args then (tz, 3) else (.mk t.lab (t.kids ++ args), 0)
theorem nodesL_any {l : List Tm} (h : bigs l = true) : 100000 < Rt.nodesL l := by
  unfold bigs at h
  rw [List.any_eq_true] at h
  obtain ⟨t, ht, h2⟩ := h
  simp at h2
  obtain ⟨k, hk, rfl⟩ := List.getElem_of_mem ht
  have := kid_nodes hk
  omega
theorem app_loop {F : Nat} (hF : ∀ (t : Tm) {h : Heap} {Q : AV → Heap → Prop}, t.nodes ≤ 1000000000 → Q (tm t) h → ACalls prog F [tm t] h Q) (b : Tm) (args : List Tm) (hb : b.nodes + Rt.nodesL args ≤ 1000000000) {h h0 : Heap} {x0 : AV} {Q : AV → Heap → Prop}
    (hs0 : SlO 3 (tmCs b.kids) h x0 h0) (hq : Q (.tup [tm (.mk b.lab (b.kids ++ args)), I 0]) h) :
    loopS (fun s_28 h_29 K_30 => binA .lss (g s_28 0) (I args.length) fun x_31 => brA x_31 (idxA 3 (.rs 3 (tmCs args)) (g s_28 0) h_29 fun p_32 => loadG 3 p_32 h_29 fun c_33 =>
      callS prog F [(.agg [(g c_33 0), (g c_33 1), (g c_33 2)])] h_29 fun r_34 h_35 => aggA 3 r_34 fun c_36 => appA 3 40 (g s_28 3) (.rs 3 [[(g c_36 0), (g c_36 1), (g c_36 2)]]) h_35 fun x_37 h_38 => oneA x_37 <| binA .add (g s_28 0) (I 1) fun x_39 =>
      K_30 [x_39, (g s_28 1), (g s_28 2), x_37] h_38) (retA (.tup [(.agg [(g s_28 1), (g s_28 2), (g s_28 3)]), (I 0)]) h_29 Q)) [(I 0), I b.lab.1, I b.lab.2, x0] h0 := by
  have hbk : b.kids.length ≤ b.nodes := by have := Rt.length_le b.kids; rw [nodes_eta]; omega
  have hal := Rt.length_le args
  refine loop_up args.length (fun k σ h' => ∃ x, σ = [I k, I b.lab.1, I b.lab.2, x] ∧ SlO 3 (tmCs (b.kids ++ args.take k)) h x h') ⟨x0, rfl, by simpa using hs0⟩ (fun k σ' h' ⟨x, e, _⟩ => by rw [e]; rfl) ?_
  rintro k σ' h' K hk ⟨x, rfl, hs⟩ hK
  by_cases hlt : k < args.length
  · have hlt' : (k : Int) < args.length := by omega
    have hn := kid_nodes hlt
    simp [hlt', hlt]
    refine callS_of ?_
    rw [tm_eta]
    refine hF _ (by omega) ?_
    simp [tm]
    refine hs.app (by simp; omega) fun x2 h3 hs2 => ?_
    rw [hs2.one]
    rw [wrap_k (k := k) (by omega)]
    refine hK hlt _ _ ⟨x2, rfl, ?_⟩
    have e : tmCs (b.kids ++ args.take (k + 1)) = tmCs (b.kids ++ args.take k) ++ [tmC args[k]] := by
      rw [List.take_succ_eq_append_getElem hlt, ← List.append_assoc, tmCs_eq, tmCs_eq, List.map_append]; rfl
    rw [e, tmC_e]
    exact hs2
  · have hkn : k = args.length := by omega
    subst hkn
    simp
    rw [List.take_length] at hs
    obtain ⟨r1, r2⟩ := hs.wk (tmCs_sz _)
    exact retA_wk (Ref.tups (.cons (Ref.aggs (.cons .refl (.cons .refl (.cons r1 .nil)))) (.cons .refl .nil))) r2 hq
theorem term_Apply_c (t : Tm) (args : List Tm) (hal : args.length ≤ 10000000000000) {h : Heap} {Q : AV → Heap → Prop} (hq : Q (.tup [tm (appE t args).1, I (appE t args).2]) h) : ACalls prog n_term_Apply [tm t, .rs 3 (tmCs args)] h Q := by
  refine term_Apply_call ?_
  unfold term_Apply tm
  simp
  unfold appE at hq
  refine callS_of ?_
  simp only [tm_eta]
  refine term_large_c t ?_
  by_cases hl : 100000 < t.nodes
  · simp [hl]; exact ret_tz (HRef.refl _) (by simpa [show 100000 < t.nodes + Rt.nodesL args by omega] using hq)
  simp [hl]
  refine callS_of (ContainsFunc_tm args (by omega) ?_)
  cases hb : bigs args with
  | true => simp; have := nodesL_any hb; exact ret_tz (HRef.refl _) (by simpa [show 100000 < t.nodes + Rt.nodesL args by omega] using hq)
  | false =>
    have ha := bigs_f hb
    simp
    refine callS_of (term_Size_c t ?_)
    simp
    have e0 : szN 100000 t = t.nodes := by simp [szN]; omega
    rw [e0]
    have hle : ∀ k, Rt.nodesL (args.take k) ≤ 100000 * k := fun k => by
      induction k with
      | zero => simp [Rt.nodesL]
      | succ k ih =>
        by_cases hk : k < args.length
        · rw [Rt.nodesL_take_succ hk]; have := ha _ (List.getElem_mem hk); omega
        · rw [List.take_of_length_le (by omega)] at ih ⊢; omega
    refine loop_up args.length (fun k σ h' => σ = [I ((t.nodes + Rt.nodesL (args.take k) : Nat) : Int), I k] ∧ h' = h) ⟨by simp [Rt.nodesL], rfl⟩ (fun k σ' h' ⟨e, _⟩ => by rw [e]; rfl) ?_
    rintro k σ' h' K hk ⟨rfl, rfl⟩ hK
    have hlk := hle k
    by_cases hlt : k < args.length
    · have hlt' : (k : Int) < args.length := by omega
      have hn := ha _ (List.getElem_mem hlt)
      simp only [g_0, g_1, w_lss, hlt', decide_true, w_brA, if_true]
      simp [hlt]
      refine callS_of ?_
      simp only [tm_eta]
      refine term_Size_c _ ?_
      have e1 : szN 100000 args[k] = args[k].nodes := by simp [szN, hn]
      have w1 : IntKind.i64.wrap ((t.nodes : Int) + (Rt.nodesL (args.take k) : Int) + (args[k].nodes : Int)) = ((t.nodes + Rt.nodesL (args.take (k + 1)) : Nat) : Int) := by
        rw [Rt.nodesL_take_succ hlt, wrap_i64 (by omega) (by omega)]; omega
      simp [e1, w1, wrap_k (k := k) (by omega)]
      exact hK hlt _ _ ⟨by simp, rfl⟩
    · have hkn : k = args.length := by omega
      subst hkn
      rw [List.take_length]
      simp only [g_0, g_1, w_lss, Int.lt_irrefl, decide_false, w_brA, Bool.false_eq_true, if_false, w_gtr, decide_eq_true_eq]
      by_cases hbig : 100000 < t.nodes + Rt.nodesL args
      · rw [if_pos (by omega)]
        exact ret_tz (HRef.refl _) (by simpa [hbig] using hq)
      · rw [if_neg (by omega)]
        refine callS_of (term_copied_c t (by omega) fun x h0 hs0 => ?_)
        simp
        exact app_loop (fun t _ _ h1 h2 => term_copied_f t h1 h2) t args (by omega) hs0 (by simpa [hbig] using hq)
theorem vref02_Apply_c (t : Tm) (args : List Tm) {h : Heap} {Q : AV → Heap → Prop} (hq : Q (.tup [tm (appE t args).1, I (appE t args).2]) h) : ACalls prog n_vref02_Apply [tm t, .rs 3 (tmCs args)] h Q := by
  refine vref02_Apply_call ?_
  unfold vref02_Apply tm
  simp
  unfold appE at hq
  refine callS_of ?_
  simp only [tm_eta]
  refine vref02_Nodes_c t (m := 100000) (by omega) ?_
  have fin : ∀ n : Nat, n = min (t.nodes + Rt.nodesL args) 100001 → brA (.val (.bool (decide (100000 < (n : Int))))) (retA (.tup [.agg [.val (.int .i64 0), .val (.int .i64 0), .e0], .val (.int .i64 3)]) h Q)
      (callS prog n_vref02_Copy [tm t] h fun r_35 h_36 => aggA 3 r_35 fun c_37 => loopS (fun s_28 h_29 K_30 => binA .lss (g s_28 0) (I args.length) fun x_31 => brA x_31 (idxA 3 (.rs 3 (tmCs args)) (g s_28 0) h_29 fun p_32 => loadG 3 p_32 h_29 fun c_33 =>
      callS prog n_vref02_Copy [(.agg [(g c_33 0), (g c_33 1), (g c_33 2)])] h_29 fun r_34 h_35 => aggA 3 r_34 fun c_36 => appA 3 40 (g s_28 3) (.rs 3 [[(g c_36 0), (g c_36 1), (g c_36 2)]]) h_35 fun x_37 h_38 => oneA x_37 <| binA .add (g s_28 0) (I 1) fun x_39 =>
      K_30 [x_39, (g s_28 1), (g s_28 2), x_37] h_38) (retA (.tup [(.agg [(g s_28 1), (g s_28 2), (g s_28 3)]), (I 0)]) h_29 Q)) [(I 0), g c_37 0, g c_37 1, g c_37 2] h_36) := by
    intro n hn
    simp only [w_brA, decide_eq_true_eq]
    by_cases hbig : 100000 < t.nodes + Rt.nodesL args
    · rw [if_pos (by omega)]
      exact ret_tz (HRef.refl _) (by simpa [hbig] using hq)
    · rw [if_neg (by omega)]
      refine callS_of (vref02_Copy_c t (by omega) fun x h0 hs0 => ?_)
      simp only [w_agg, List.length_cons, List.length_nil, true_and, g_0, g_1, g_2]
      exact app_loop (fun t _ _ h1 h2 => vref02_Copy_f t h1 h2) t args (by omega) hs0 (by simpa [hbig] using hq)
  refine loop_up args.length (fun k σ h' => σ = [I (min (t.nodes + Rt.nodesL (args.take k)) 100001 : Nat), I k] ∧ h' = h ∧ k ≤ 100001) ⟨by simp [Rt.nodesL], rfl, by omega⟩ (fun k σ' h' ⟨e, _⟩ => by rw [e]; rfl) ?_
  rintro k σ' h' K hk ⟨rfl, rfl, hkm⟩ hK
  have hle := Rt.nodesL_take_le args k
  by_cases hlt : k < args.length
  · have hlt' : (k : Int) < args.length := by omega
    simp only [g_0, g_1, w_lss, hlt', decide_true, w_brA, if_true, w_leq, decide_eq_true_eq, w_gtr]
    by_cases hc : t.nodes + Rt.nodesL (args.take k) ≤ 100000
    · rw [if_pos (by omega)]
      have hl := Rt.length_le (args.take k)
      rw [List.length_take, Nat.min_eq_left hk] at hl
      have emin : min (t.nodes + Rt.nodesL (args.take k)) 100001 = t.nodes + Rt.nodesL (args.take k) := by omega
      rw [emin]
      have w1 : IntKind.i64.wrap (100000 - ((t.nodes : Int) + (Rt.nodesL (args.take k) : Int))) = ((100000 - (t.nodes + Rt.nodesL (args.take k)) : Nat) : Int) := by rw [wrap_i64 (by omega) (by omega)]; omega
      simp [hlt, w1]
      refine callS_of ?_
      simp only [tm_eta]
      refine vref02_Nodes_c _ (by omega) ?_
      have hs := Rt.nodesL_take_succ hlt
      have hn := Rt.nodes_pos args[k]
      have e1 : IntKind.i64.wrap ((t.nodes : Int) + (Rt.nodesL (args.take k) : Int) + (min args[k].nodes (100000 - (t.nodes + Rt.nodesL (args.take k)) + 1) : Nat)) = ((min (t.nodes + Rt.nodesL (args.take (k + 1))) 100001 : Nat) : Int) := by
        rw [wrap_i64 (by omega) (by omega), hs]; omega
      simp only [w_add, e1, wrap_k (k := k) (show k ≤ 4611686018427387904 by omega)]
      exact hK hlt _ _ ⟨rfl, rfl, by omega⟩
    · rw [if_neg (by omega)]
      have := fin (min (t.nodes + Rt.nodesL (args.take k)) 100001) (by omega)
      simp only [w_brA, decide_eq_true_eq] at this
      first | exact this | simpa [tm_eta] using this
  · have hkn : k = args.length := by omega
    subst hkn
    rw [List.take_length]
    simp only [g_0, g_1, w_lss, Int.lt_irrefl, decide_false, w_brA, Bool.false_eq_true, if_false, w_gtr, decide_eq_true_eq]
    have := fin (min (t.nodes + Rt.nodesL args) 100001) rfl
    simp only [w_brA, decide_eq_true_eq] at this
    first | exact this | simpa [tm_eta] using this
/-! ### Counts -/
mutual
def cnt (v : Int) : Tm → Nat
  | .mk a us => (if a.1 = 0 ∧ a.2 = v then 1 else 0) + cntL v us
def cntL (v : Int) : List Tm → Nat
  | [] => 0
  | u :: us => cnt v u + cntL v us
end
theorem cntL_snoc (v : Int) {us : List Tm} {k : Nat} (hk : k < us.length) : cntL v (us.take (k + 1)) = cntL v (us.take k) + cnt v us[k] := by
  rw [List.take_succ_eq_append_getElem hk]
  generalize us.take k = vs
  induction vs with
  | nil => simp [cntL]
  | cons w vs ih => simp only [List.cons_append, cntL, ih]; omega
theorem cntL_le (v : Int) {us : List Tm} (h : ∀ t, t ∈ us → cnt v t ≤ t.nodes) : cntL v us ≤ Rt.nodesL us := by
  induction us with
  | nil => simp [cntL, Rt.nodesL]
  | cons u us ih =>
    have h1 := h u (by simp)
    have h2 := ih fun t ht => h t (by simp [ht])
    simp only [cntL, Rt.nodesL]; omega
theorem cnt_le (v : Int) (t : Tm) : cnt v t ≤ t.nodes := by
  refine Rt.ind (P := fun t => cnt v t ≤ t.nodes) (fun a us ih => ?_) t
  have := cntL_le v ih
  simp only [cnt, Rt.nodes]; split <;> omega
theorem vref02_Count_c (v : Int) (t : Tm) : ∀ {h : Heap} {Q : AV → Heap → Prop}, t.nodes ≤ 1000000000 → Q (I (cnt v t)) h → ACalls prog n_vref02_Count [tm t, I v] h Q := by
  refine Rt.ind (P := fun t => ∀ {h : Heap} {Q : AV → Heap → Prop}, t.nodes ≤ 1000000000 → Q (I (cnt v t)) h → ACalls prog n_vref02_Count [tm t, I v] h Q) (fun a us ih => ?_) t
  intro h Q hm hq
  refine vref02_Count_call ?_
  unfold vref02_Count tm
  simp only [Rt.nodes] at hm
  have hlen := Rt.length_le us
  have hcl := cntL_le v (us := us) fun t _ => cnt_le v t
  have loop : ∀ n0 : Nat, n0 ≤ 1 → Q (I ((n0 + cntL v us : Nat) : Int)) h → loopS (fun s_5 h_6 K_7 => binA .lss (g s_5 1) (I us.length) fun x_8 => brA x_8 (idxA 3 (.rs 3 (tmCs us)) (g s_5 1) h_6 fun p_9 => loadG 3 p_9 h_6 fun c_10 =>
      callS prog n_vref02_Count [(.agg [(g c_10 0), (g c_10 1), (g c_10 2)]), I v] h_6 fun r_11 h_12 => binA .add (g s_5 0) r_11 fun x_13 => binA .add (g s_5 1) (I 1) fun x_14 => K_7 [x_13, x_14] h_12) (retA (g s_5 0) h_6 Q)) [(I n0), (I 0)] h := by
    intro n0 hn0 hQ
    refine loop_up us.length (fun k σ h' => σ = [I ((n0 + cntL v (us.take k) : Nat) : Int), I k] ∧ h' = h) ⟨by simp [cntL], rfl⟩ (fun k σ' h' ⟨e, _⟩ => by rw [e]; rfl) ?_
    rintro k σ' h' K hk ⟨rfl, rfl⟩ hK
    by_cases hlt : k < us.length
    · have hlt' : (k : Int) < us.length := by omega
      have hn := kid_nodes hlt
      have h1 := cntL_snoc v hlt
      have h2 : cntL v (us.take (k + 1)) ≤ Rt.nodesL us := Nat.le_trans (cntL_le v fun t _ => cnt_le v t) (Rt.nodesL_take_le us (k + 1))
      simp only [g_0, g_1, w_lss, hlt', decide_true, w_brA, if_true]
      simp [hlt]
      refine callS_of ?_
      rw [tm_eta]
      refine ih us[k] (List.getElem_mem hlt) (by omega) ?_
      have w1 : IntKind.i64.wrap ((n0 : Int) + (cntL v (us.take k) : Int) + (cnt v us[k] : Int)) = ((n0 + cntL v (us.take (k + 1)) : Nat) : Int) := by rw [wrap_i64 (by omega) (by omega), h1]; omega
      simp [w1, wrap_k (k := k) (by omega)]
      exact hK hlt _ _ ⟨by simp, rfl⟩
    · have hkn : k = us.length := by omega
      subst hkn
      rw [List.take_length]
      simp only [g_0, g_1, w_lss, Int.lt_irrefl, decide_false, w_brA, Bool.false_eq_true, if_false]
      exact retA_of hQ
  simp [tmC]
  by_cases k0 : a.1 = 0
  · by_cases k1 : a.2 = v
    · simp [k0, k1]; exact loop 1 (by omega) (by simpa [cnt, k0, k1] using hq)
    · simp [k0, k1]; exact loop 0 (by omega) (by simpa [cnt, k0, k1] using hq)
  · simp [k0]; exact loop 0 (by omega) (by simpa [cnt, k0] using hq)
end Am
