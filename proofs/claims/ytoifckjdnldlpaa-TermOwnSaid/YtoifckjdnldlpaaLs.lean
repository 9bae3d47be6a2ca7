/- Sorts whose arguments are own. -/
import Derived.Test.YtoifckjdnldlpaaLr
set_option linter.unusedVariables false
set_option linter.unusedSimpArgs false
namespace Am
open Go Go.Proofs.Try
theorem Rt.nodes_mem {α : Type} {l : List (Rt α)} {t : Rt α} (ht : t ∈ l) : t.nodes ≤ Rt.nodesL l := by
  induction l with
  | nil => cases ht
  | cons u l ih =>
    simp only [Rt.nodesL]
    rcases List.mem_cons.1 ht with rfl | ht
    · omega
    · have := ih ht; omega
theorem Rt.nodesL_bound {α : Type} {l : List (Rt α)} {c : Nat} (hl : ∀ t, t ∈ l → t.nodes ≤ c) : Rt.nodesL l ≤ c * l.length := by
  induction l with
  | nil => simp [Rt.nodesL]
  | cons u l ih =>
    have h1 := hl u (by simp)
    have h2 := ih fun t ht => hl t (by simp [ht])
    simp only [Rt.nodesL, List.length_cons, Nat.mul_succ]; omega
theorem sorts_copied_o (us : List Srt) {h : Heap} {Q : AV → Heap → Prop} (hm : Rt.nodesL us ≤ 1000000000) (hq : ∀ x h', SlO 1 (srCs us) h x h' → Q x h') : ACalls prog n_sorts_copied [.rs 1 (srCs us)] h Q := by
  refine sorts_copied_call ?_
  unfold sorts_copied
  have hlen := Rt.length_le us
  simp
  refine loop_up us.length (fun k σ h' => ∃ x, σ = [x, I k] ∧ SlO 1 (srCs (us.take k)) h x h') ⟨.e0, rfl, by simp [srCs]; exact SlO.nil 1⟩ (fun k σ' h' ⟨x, e, _⟩ => by rw [e]; rfl) ?_
  rintro k σ' h' K hk ⟨x, rfl, hs⟩ hK
  by_cases hlt : k < us.length
  · have hlt' : (k : Int) < us.length := by omega
    have hn := kid_nodes hlt
    have hn2 : us[k].nodes = Rt.nodesL us[k].kids + 1 := by cases us[k]; simp [Rt.nodes, Rt.kids]
    simp [hlt', hlt]
    refine callS_of ?_
    rw [srC_eq]
    refine sorts_copied_f _ (by omega) ?_
    simp
    refine hs.app (by simp; omega) fun x2 h3 hs2 => ?_
    rw [wrap_k (k := k) (by omega)]
    refine hK hlt _ _ ⟨x2, rfl, ?_⟩
    rw [← srC_eq] at hs2
    rw [srCs_snoc hlt]; exact hs2
  · have hkn : k = us.length := by omega
    subst hkn
    simp
    rw [List.take_length] at hs
    exact retA_of (hq x h' hs)
theorem sorts_Behind_o (t : Srt) (ht : okS t = true) {h : Heap} {Q : AV → Heap → Prop} (hq : ∀ x h', SlO 1 (srCs t.kids) h x h' → Q (.tup [.agg [x], I 0]) h') : ACalls prog n_sorts_Behind [sr t, I 0] h Q := by
  refine sorts_Behind_call ?_
  unfold sorts_Behind sr
  simp
  refine callS_of ?_
  rw [sr_eta]
  refine sorts_Check_c t ?_
  rw [srC_eq]
  simp [ht]
  have hn : t.nodes ≤ 60 := by unfold okS at ht; simp at ht; exact ht.1.1
  have hk : Rt.nodesL t.kids ≤ 60 := by cases t; simp only [Rt.nodes] at hn; simp only [Rt.kids]; omega
  refine callS_of (sorts_copied_o t.kids (by omega) fun x h' hs => ?_)
  rw [hs.one]
  exact retA_of (hq x h' hs)
theorem term_Sort_o (p : Pl) (t : Tm) {h : Heap} {Q : AV → Heap → Prop} (hq : ∀ (x : AV) (h' : Heap) (us : List Srt) (e : Int), SlO 1 (srCs us) h x h' → us.length ≤ 60 → (∀ s, s ∈ us → s.kids.length ≤ 60) → Q (.tup [.agg [x], I e]) h') : ACalls prog n_term_Sort [pl p, tm t] h Q := by
  have h0 : ∀ e : Int, Q (.tup [.agg [.e0], I e]) h := fun e => hq .e0 h [] e (by simp [srCs]; exact SlO.nil 1) (by simp) (by simp)
  refine term_Sort_call ?_
  unfold term_Sort
  simp [pl, tm]
  refine callS_of ?_
  simp only [tm_eta, pl_eta]
  refine term_Check_c p ?_
  cases hp : plB p with
  | false => simp; exact retA_of (h0 _)
  | true =>
    have hpo := plB_ok hp
    simp
    refine callS_of (term_large_c t ?_)
    by_cases hl : 100000 < t.nodes
    · simp [hl]; exact retA_of (h0 _)
    · simp [hl]
      refine callS_of (term_Place_sort_c p hpo t (by omega) ?_)
      simp [sr]
      cases hr : (sortR p t).2 with
      | false => simp; exact retA_of (h0 _)
      | true =>
        simp
        refine callS_of ?_
        rw [sr_eta]
        have hok := sortR_ok hpo t
        have hn := okS_nodes hok
        refine sorts_Behind_o _ hok fun x h' hs => ?_
        simp
        have h1 := Rt.length_le (sortR p t).1.kids
        have h2 : (sortR p t).1.nodes = Rt.nodesL (sortR p t).1.kids + 1 := by cases (sortR p t).1; simp [Rt.nodes, Rt.kids]
        refine retA_of (hq x h' _ 0 hs (by omega) fun s hs => ?_)
        have h3 := Rt.nodes_mem hs
        have h4 := Rt.length_le s.kids
        have h5 : s.nodes = Rt.nodesL s.kids + 1 := by cases s; simp [Rt.nodes, Rt.kids]
        omega
/-- The loop that writes into the arguments of a sort. -/
theorem own_sorts {us : List Srt} {h h' : Heap} {x : AV} (hs : SlO 1 (srCs us) h x h') (hl : us.length ≤ 60) (hk60 : ∀ s, s ∈ us → s.kids.length ≤ 60) {R : Heap → Prop} (hR : ∀ h2, HRef h2 h → R h2) :
    loopS (fun s_42 h_43 K_44 =>
      binA .lss (g s_42 0) (I us.length) fun x_45 =>
      brA x_45 (idxA 1 x (g s_42 0) h_43 fun p_46 =>
      fldA 0 p_46 fun p_47 =>
      loadV p_47 h_43 fun x_48 =>
      lenA x_48 fun x_49 =>
      binA .add x_49 (I 1) fun x_50 =>
      mkA 1 24 [.e0] x_50 x_50 h_43 fun x_51 h_52 =>
      oneA x_51 <|
      idxA 1 x (g s_42 0) h_52 fun p_53 =>
      storeG p_53 [x_51] h_52 fun h_54 =>
      binA .add (g s_42 0) (I 1) fun x_55 =>
      K_44 [x_55] h_54) (R h_43)) [(I 0)] h' := by
  rcases hs with ⟨he, rfl, rfl⟩ | ⟨hne, id, hi, rfl, rfl⟩
  · have hl0 : us.length = 0 := by have := congrArg List.length he; simpa using this
    rw [hl0]
    refine loop_ix 0 (fun _ => True) trivial fun k hk _ K hK => ?_
    obtain rfl : k = 0 := by omega
    simp
    exact hR _ (HRef.refl _)
  · refine loop_up us.length (fun k σ h2 => ∃ els2, σ = [I k] ∧ els2.length = us.length ∧ els2.drop k = (srCs us).drop k ∧ h2 id = some (.arr 1 els2) ∧ ∀ j n, h j = some n → h2 j = some n) ⟨srCs us, rfl, by simp, rfl, Heap.set_same _ _ _, fun j n hj => ?_⟩ (fun k σ' h' ⟨_, e, _⟩ => by rw [e]; rfl) ?_
    · rw [Heap.set_ne]; exact hj
      intro e; subst e; rw [hi] at hj; cases hj
    rintro k σ' h4 K hk ⟨els2, rfl, hl2, hd2, hi2, hf2⟩ hK
    by_cases hlt : k < us.length
    · have hlt' : (k : Int) < us.length := by omega
      have hlt2 : k < els2.length := by omega
      have hlt3 : k < (srCs us).length := by simpa using hlt
      have hu : els2.getD k [] = [srC us[k]] := by
        have := congrArg (fun l => l[0]?) hd2
        simp only [List.getElem?_drop, Nat.add_zero] at this
        rw [List.getD_eq_getElem?_getD, this, ← List.getD_eq_getElem?_getD, srCs_get (by simpa using hlt)]
      simp only [g_0, w_lss, hlt', decide_true, w_brA, if_true]
      rw [w_idx_os hi2]
      refine ⟨rfl, by omega, by simpa using hlt', by simp; omega, ?_⟩
      rw [w_fld_op, w_loadV_op hi2, Int.toNat_natCast, hu]
      refine ⟨hlt2, by omega, ?_⟩
      simp only [Nat.add_zero, g_0]
      rw [srC_eq]
      simp only [w_len_rs, w_add]
      have hkl := hk60 us[k] (List.getElem_mem hlt)
      have hz : (srCs us[k].kids).length ≤ 60 := by simpa using hkl
      rw [wrap_k (by omega)]
      refine ⟨rfl, by omega, by omega, fun id2 hid2 => ?_⟩
      have hne2 : id ≠ id2 := fun e => by subst e; rw [hi2] at hid2; cases hid2
      have hi5 : (h4.set id2 (.arr 1 (List.replicate (((srCs us[k].kids).length + 1 : Nat) : Int).toNat [.e0]))) id = some (.arr 1 els2) := by rw [Heap.set_ne hne2]; exact hi2
      simp only [w_one_os]
      rw [w_idx_os hi5]
      refine ⟨rfl, by omega, by simpa using hlt', by simp; omega, ?_⟩
      rw [w_store hi5, Int.toNat_natCast]
      refine ⟨hlt2, by simp, ?_⟩
      rw [wrap_k (k := k) (by omega)]
      refine hK hlt _ _ ⟨_, rfl, by simp [hl2], ?_, Heap.set_same _ _ _, fun j n hj => ?_⟩
      · rw [List.drop_set_of_lt (by omega)]
        have := congrArg (List.drop 1) hd2
        simpa using this
      · have a1 : j ≠ id := fun e => by subst e; rw [hi] at hj; cases hj
        have a2 := hf2 j n hj
        have a3 : j ≠ id2 := fun e => by subst e; rw [hid2] at a2; cases a2
        rw [Heap.set_ne a1, Heap.set_ne a3]; exact a2
    · have hkn : k = us.length := by omega
      subst hkn
      simp
      exact hR _ (HRef.sub hf2)
end Am
