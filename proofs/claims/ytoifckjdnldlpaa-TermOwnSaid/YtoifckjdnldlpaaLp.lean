/- Contracts whose results are own all the way down. -/
import Derived.Test.YtoifckjdnldlpaaLo
set_option linter.unusedVariables false
set_option linter.unusedSimpArgs false
namespace Am
open Go Go.Proofs.Try
theorem term_copied_o (t : Tm) : ∀ {h : Heap} {Q : AV → Heap → Prop}, t.nodes ≤ 1000000000 → (∀ x h' L, OL h' t.kids L x → New h h' L → (∀ k, oneA x k = k) → Q (.agg [I t.lab.1, I t.lab.2, x]) h') → ACalls prog n_term_copied [tm t] h Q := by
  refine Rt.ind (P := fun t => ∀ {h : Heap} {Q : AV → Heap → Prop}, t.nodes ≤ 1000000000 → (∀ x h' L, OL h' t.kids L x → New h h' L → (∀ k, oneA x k = k) → Q (.agg [I t.lab.1, I t.lab.2, x]) h') → ACalls prog n_term_copied [tm t] h Q) (fun a us ih => ?_) t
  intro h Q hm hq
  refine term_copied_call ?_
  unfold term_copied tm
  simp only [Rt.nodes] at hm
  have hlen := Rt.length_le us
  simp [tmC]
  refine loop_up us.length (fun k σ h' => ∃ x L, σ = [I k, I a.1, I a.2, x] ∧ OL h' (us.take k) L x ∧ New h h' L ∧ ∀ k, oneA x k = k) ⟨.e0, [], rfl, .inl ⟨by simp, rfl, rfl⟩, New.nil h, fun k => rfl⟩ (fun k σ' h' ⟨x, L, e, _⟩ => by rw [e]; rfl) ?_
  rintro k σ' h' K hk ⟨x, L, rfl, hs, hn, h1⟩ hK
  by_cases hlt : k < us.length
  · have hlt' : (k : Int) < us.length := by omega
    have hkn := kid_nodes hlt
    simp [hlt', hlt]
    refine callS_of ?_
    rw [tm_eta]
    refine ih us[k] (List.getElem_mem hlt) (by omega) fun y h2 L2 hy hn2 _ => ?_
    simp
    refine OL.app hs hn (OT_iff.2 ⟨y, rfl, hy⟩ : OT h2 (.mk us[k].lab us[k].kids) L2 _) hn2 (by simp; omega) fun x2 h3 L3 hs2 hn3 h12 => ?_
    rw [h12, wrap_k (k := k) (by omega)]
    refine hK hlt _ _ ⟨x2, L3, rfl, ?_, hn3, h12⟩
    rw [List.take_succ_eq_append_getElem hlt]
    have : (Rt.mk us[k].lab us[k].kids : Tm) = us[k] := by cases us[k]; rfl
    rw [← this]; exact hs2
  · have hkn : k = us.length := by omega
    subst hkn
    simp
    rw [List.take_length] at hs
    exact retA_of (hq x h' L hs hn h1)
theorem term_put_o (args : List Tm) (t : Tm) : vok args.length t = true → t.nodes ≤ 1000000000 → (sub args t).nodes ≤ 1000000000 → (∀ x, x ∈ args → x.nodes ≤ 1000000000) →
    ∀ {h : Heap} {Q : AV → Heap → Prop}, (∀ x h' L, OL h' (sub args t).kids L x → New h h' L → (∀ k, oneA x k = k) → Q (.agg [I (sub args t).lab.1, I (sub args t).lab.2, x]) h') → ACalls prog n_term_put [tm t, .rs 3 (tmCs args)] h Q := by
  refine Rt.ind (P := fun t => vok args.length t = true → t.nodes ≤ 1000000000 → (sub args t).nodes ≤ 1000000000 → (∀ x, x ∈ args → x.nodes ≤ 1000000000) →
    ∀ {h : Heap} {Q : AV → Heap → Prop}, (∀ x h' L, OL h' (sub args t).kids L x → New h h' L → (∀ k, oneA x k = k) → Q (.agg [I (sub args t).lab.1, I (sub args t).lab.2, x]) h') → ACalls prog n_term_put [tm t, .rs 3 (tmCs args)] h Q) (fun a us ih => ?_) t
  intro hv hm hsm ha h Q hq
  refine term_put_call ?_
  unfold term_put tm
  rw [sub_nodes] at hsm
  simp only [Rt.nodes] at hm
  have hlen := Rt.length_le us
  simp only [vok, Bool.and_eq_true, Bool.or_eq_true, decide_eq_true_eq] at hv
  obtain ⟨hvl, hv⟩ := hv
  have hvk : ∀ k (hk : k < us.length), vok args.length us[k] = true := fun k hk => by
    have : ∀ (l : List Tm), vokL args.length l = true → ∀ t, t ∈ l → vok args.length t = true := fun l => by
      induction l with
      | nil => intro _ t ht; cases ht
      | cons u l ih =>
        intro h t ht
        simp only [vokL, Bool.and_eq_true] at h
        rcases List.mem_cons.1 ht with rfl | ht
        · exact h.1
        · exact ih h.2 t ht
    exact this us hvl _ (List.getElem_mem hk)
  -- the loop, from whatever is there
  have loop : ∀ (b : Tm) (x0 : AV) (h0 : Heap) (L0 : List Nat), b.nodes + Rt.nodesL (subL args us) ≤ 1000000001 → (∀ x h' L, OL h' (b.kids ++ subL args us) L x → New h h' L → (∀ k, oneA x k = k) → Q (.agg [I b.lab.1, I b.lab.2, x]) h') → OL h0 b.kids L0 x0 → New h h0 L0 → (∀ k, oneA x0 k = k) →
      loopS (fun s_9 h_10 K_11 => binA .lss (g s_9 0) (I us.length) fun x_12 => brA x_12 (idxA 3 (.rs 3 (tmCs us)) (g s_9 0) h_10 fun p_13 => loadG 3 p_13 h_10 fun c_14 =>
        callS prog n_term_put [(.agg [(g c_14 0), (g c_14 1), (g c_14 2)]), .rs 3 (tmCs args)] h_10 fun r_15 h_16 => aggA 3 r_15 fun c_17 =>
        appA 3 40 (g s_9 3) (.rs 3 [[(g c_17 0), (g c_17 1), (g c_17 2)]]) h_16 fun x_18 h_19 => oneA x_18 <| binA .add (g s_9 0) (I 1) fun x_20 =>
        K_11 [x_20, (g s_9 1), (g s_9 2), x_18] h_19) (retA (.agg [(g s_9 1), (g s_9 2), (g s_9 3)]) h_10 Q)) [(I 0), I b.lab.1, I b.lab.2, x0] h0 := by
    intro b x0 h0 L0 hb hQ hs0 hn0 hx0
    have hbk : b.kids.length ≤ b.nodes := by have := Rt.length_le b.kids; rw [nodes_eta]; omega
    refine loop_up us.length (fun k σ h' => ∃ x L, σ = [I k, I b.lab.1, I b.lab.2, x] ∧ OL h' (b.kids ++ subL args (us.take k)) L x ∧ New h h' L ∧ ∀ k, oneA x k = k) ⟨x0, L0, rfl, by simpa [subL] using hs0, hn0, hx0⟩ (fun k σ' h' ⟨x, L, e, _⟩ => by rw [e]; rfl) ?_
    rintro k σ' h' K hk ⟨x, L, rfl, hs, hnw, hx1⟩ hK
    by_cases hlt : k < us.length
    · have hlt' : (k : Int) < us.length := by omega
      have hn := kid_nodes hlt
      have h1 := nodesL_sub_snoc (args := args) hlt
      have h2 := nodesL_sub_le args us (k + 1)
      have h3 := Rt.length_le (subL args (us.take k))
      simp [hlt', hlt]
      refine callS_of ?_
      rw [tm_eta]
      refine ih us[k] (List.getElem_mem hlt) (hvk k hlt) (by omega) (by omega) ha fun y h2 L2 hy hn2 _ => ?_
      simp
      refine OL.app hs hnw (OT_iff.2 ⟨y, rfl, hy⟩ : OT h2 (.mk (sub args us[k]).lab (sub args us[k]).kids) L2 _) hn2 (by simp; omega) fun x2 h3 L3 hs2 hn3 h12 => ?_
      rw [h12]
      rw [wrap_k (k := k) (by omega)]
      refine hK hlt _ _ ⟨x2, L3, rfl, ?_, hn3, h12⟩
      have e : (Rt.mk (sub args us[k]).lab (sub args us[k]).kids : Tm) = sub args us[k] := by cases sub args us[k]; rfl
      rw [subL_snoc hlt, ← List.append_assoc, ← e]
      exact hs2
    · have hkn : k = us.length := by omega
      subst hkn
      simp
      rw [List.take_length] at hs
      exact retA_of (hQ x h' L hs hnw hx1)
  simp [tmC]
  by_cases k0 : a.1 = 0
  · have hv' : 0 ≤ a.2 ∧ a.2 < args.length := by omega
    have hk : a.2.toNat < args.length := by omega
    simp [k0, hv'.1, hv'.2, hk]
    refine callS_of ?_
    rw [tm_eta]
    have hg : args.getD a.2.toNat default = args[a.2.toNat] := by simp [List.getD_eq_getElem?_getD, hk]
    have hbase : base args a = args[a.2.toNat].nodes := by simp [base, k0, List.getD_eq_getElem?_getD, hk]
    rw [hbase] at hsm
    refine term_copied_o _ (ha _ (List.getElem_mem hk)) fun x0 h0 L0 hs0 hn0 hx0 => ?_
    simp
    refine loop args[a.2.toNat] x0 h0 L0 (by omega) (fun x h' L hs hn hx => ?_) hs0 hn0 hx0
    have := hq x h' L
    unfold sub at this
    rw [if_pos k0, hg] at this
    exact this hs hn hx
  · simp [k0]
    have hbase : base args a = 1 := by simp [base, k0]
    rw [hbase] at hsm
    refine loop (.mk a []) .e0 h [] (by simp only [Rt.nodes, Rt.nodesL]; omega) (fun x h' L hs hn hx => ?_) (.inl ⟨rfl, rfl, rfl⟩) (New.nil h) (fun k => rfl)
    have := hq x h' L
    unfold sub at this
    rw [if_neg k0] at this
    exact this hs hn hx
end Am
