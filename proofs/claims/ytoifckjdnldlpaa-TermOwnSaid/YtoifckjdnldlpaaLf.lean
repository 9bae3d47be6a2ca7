/- Contracts: substitution (the program's). -/
import Derived.Test.YtoifckjdnldlpaaLe
set_option linter.unusedVariables false
set_option linter.unusedSimpArgs false
namespace Am
open Go Go.Proofs.Try
open Rt (eqR eqRL eqR_iff)
theorem IndexFunc_tm {cl : Nat} {f : Tm → Bool} (l : List Tm) {h : Heap} {Q : AV → Heap → Prop} (hf : ∀ s, s ∈ l → ∀ {Q : AV → Heap → Prop}, Q (B (f s)) h → ACalls prog cl [tm s] h Q) (hl : l.length ≤ 4611686018427387904)
    (hq : ∀ r : Int, (0 ≤ r ↔ l.any f = true) → Q (I r) h) : ACalls prog n_slices_IndexFunc_api_Term_api_Term [.rs 3 (tmCs l), .fn cl []] h Q := by
  refine slices_IndexFunc_api_Term_api_Term_call ?_
  unfold slices_IndexFunc_api_Term_api_Term
  simp
  refine loop_ix l.length (fun k => l.any f = (l.drop k).any f) (by simp) fun k hk hi K hK => ?_
  by_cases hlt : k < l.length
  · have hlt' : (k : Int) < l.length := by omega
    simp [hlt', hlt]
    refine callS_of ?_
    rw [tm_eta]
    refine hf _ (List.getElem_mem hlt) ?_
    rw [List.drop_eq_getElem_cons hlt, List.any_cons] at hi
    cases hf : f l[k] with
    | true =>
      rw [hf] at hi
      simp
      exact retA_of (hq k (by rw [hi]; simp))
    | false =>
      rw [hf] at hi
      simp [wrap_k (k := k) (by omega)]
      exact hK hlt (by rw [hi]; simp)
  · have hkn : k = l.length := by omega
    subst hkn
    simp
    exact retA_of (hq (-1) (by rw [hi]; simp))
def bigs (l : List Tm) : Bool := l.any fun t => decide (100000 < t.nodes)
theorem ContainsFunc_tm (l : List Tm) {h : Heap} {Q : AV → Heap → Prop} (hl : l.length ≤ 4611686018427387904)
    (hq : Q (B (bigs l)) h) : ACalls prog n_slices_ContainsFunc_api_Term_api_Term [.rs 3 (tmCs l), .fn 94 []] h Q := by
  refine slices_ContainsFunc_api_Term_api_Term_call ?_
  unfold slices_ContainsFunc_api_Term_api_Term
  refine callS_of (IndexFunc_tm (f := fun t => decide (100000 < t.nodes)) l (fun s _ Q hq => term_large_c s hq) hl fun r hr => ?_)
  simp
  refine retA_of ?_
  have : decide (0 ≤ r) = bigs l := by rw [Bool.eq_iff_iff]; simp only [decide_eq_true_eq]; exact hr
  rw [this]; exact hq
theorem bigs_f {l : List Tm} (h : bigs l = false) : ∀ t, t ∈ l → t.nodes ≤ 100000 := fun t ht => by
  unfold bigs at h
  rw [List.any_eq_false] at h
  have := h t ht
  simp at this; exact this
/-! ### Substitution -/
mutual
def sub (args : List Tm) : Tm → Tm
  | .mk a us => if a.1 = 0 then .mk (args.getD a.2.toNat default).lab ((args.getD a.2.toNat default).kids ++ subL args us) else .mk a (subL args us)
def subL (args : List Tm) : List Tm → List Tm
  | [] => []
  | u :: us => sub args u :: subL args us
end
mutual
def vok (n : Nat) : Tm → Bool
  | .mk a us => vokL n us && (decide (a.1 ≠ 0) || (decide (0 ≤ a.2) && decide (a.2 < n)))
def vokL (n : Nat) : List Tm → Bool
  | [] => true
  | u :: us => vok n u && vokL n us
end
theorem subL_eq (args : List Tm) (l : List Tm) : subL args l = l.map (sub args) := by induction l with | nil => rfl | cons u l ih => simp [subL, ih]
theorem subL_snoc {args l : List Tm} {k : Nat} (hk : k < l.length) : subL args (l.take (k + 1)) = subL args (l.take k) ++ [sub args l[k]] := by
  rw [List.take_succ_eq_append_getElem hk, subL_eq, subL_eq, List.map_append]; rfl
theorem vokL_drop {n : Nat} {us : List Tm} {k : Nat} (hk : k < us.length) : vokL n (us.drop k) = (vok n us[k] && vokL n (us.drop (k + 1))) := by
  rw [List.drop_eq_getElem_cons hk]; simp [vokL]
/-- The nodes of what stands for a head. -/
def base (args : List Tm) (a : Int × Int) : Nat := if a.1 = 0 then (args.getD a.2.toNat default).nodes else 1
theorem nodes_eta (t : Tm) : t.nodes = Rt.nodesL t.kids + 1 := by cases t; simp [Rt.nodes, Rt.kids]
theorem sub_nodes (args : List Tm) (a : Int × Int) (us : List Tm) : (sub args (.mk a us)).nodes = base args a + Rt.nodesL (subL args us) := by
  unfold sub base
  split
  · rw [nodes_eta (args.getD a.2.toNat default)]; simp only [Rt.nodes, Rt.nodesL_append]; omega
  · simp only [Rt.nodes]; omega
theorem nodesL_sub_snoc {args us : List Tm} {k : Nat} (hk : k < us.length) : Rt.nodesL (subL args (us.take (k + 1))) = Rt.nodesL (subL args (us.take k)) + (sub args us[k]).nodes := by
  rw [subL_snoc hk]; simp [Rt.nodesL]
theorem nodesL_sub_le (args us : List Tm) (k : Nat) : Rt.nodesL (subL args (us.take k)) ≤ Rt.nodesL (subL args us) := by
  rw [subL_eq, subL_eq, List.map_take]; exact Rt.nodesL_take_le _ _
theorem getD_nodes {args : List Tm} (ha : ∀ t, t ∈ args → t.nodes ≤ 100000) (i : Nat) : (args.getD i default).nodes ≤ 100000 := by
  rw [List.getD_eq_getElem?_getD]
  rcases Nat.lt_or_ge i args.length with h | h
  · rw [List.getElem?_eq_getElem h]; exact ha _ (List.getElem_mem h)
  · rw [List.getElem?_eq_none h]; decide
theorem base_le {args : List Tm} (ha : ∀ t, t ∈ args → t.nodes ≤ 100000) (a : Int × Int) : base args a ≤ 100000 := by
  unfold base; split
  · exact getD_nodes ha _
  · omega
theorem sub_le {args : List Tm} (ha : ∀ t, t ∈ args → t.nodes ≤ 100000) (t : Tm) : (sub args t).nodes ≤ 100000 * t.nodes := by
  refine Rt.ind (P := fun t => (sub args t).nodes ≤ 100000 * t.nodes) (fun a us ih => ?_) t
  rw [sub_nodes]
  have hb := base_le ha a
  have : Rt.nodesL (subL args us) ≤ 100000 * Rt.nodesL us := by
    clear hb
    induction us with
    | nil => simp [subL, Rt.nodesL]
    | cons u us ih2 =>
      have h1 := ih u (by simp)
      have h2 := ih2 fun t ht => ih t (by simp [ht])
      simp only [subL, Rt.nodesL]; omega
  simp only [Rt.nodes]; omega
theorem subL_le {args : List Tm} (ha : ∀ t, t ∈ args → t.nodes ≤ 100000) (us : List Tm) : Rt.nodesL (subL args us) ≤ 100000 * Rt.nodesL us := by
  induction us with
  | nil => simp [subL, Rt.nodesL]
  | cons u us ih => have := sub_le ha u; simp only [subL, Rt.nodesL]; omega
/-- The test that counts, at one term. -/
theorem term_Subst_1_c {args : List Tm} (ha : ∀ t, t ∈ args → t.nodes ≤ 100000) (hal : args.length ≤ 4611686018427387904) (t : Tm) {h : Heap} {id1 id2 : Nat} (hne : id2 ≠ id1) {n : Int} (h1 : h id1 = some (.arr 1 [[I n]])) (h2 : h id2 = some (.arr 1 [[.rs 3 (tmCs args)]])) (n0 : 0 ≤ n) (n1 : n ≤ 1000000000000000)
    {Q : AV → Heap → Prop} (hT : (t.lab.1 ≠ 0 ∨ (0 ≤ t.lab.2 ∧ t.lab.2 < args.length)) → Q (B true) (h.set id1 (.arr 1 [[I (n + base args t.lab)]])))
    (hF : ¬ (t.lab.1 ≠ 0 ∨ (0 ≤ t.lab.2 ∧ t.lab.2 < args.length)) → ∀ m, Q (B false) (h.set id1 (.arr 1 [[I m]]))) : ACalls prog n_term_Subst_1 [tm t, .op id1 0 0, .op id2 0 0] h Q := by
  refine term_Subst_1_call ?_
  unfold term_Subst_1 tm
  have w1 : IntKind.i64.wrap (n + 1) = n + 1 := wrap_i64 (by omega) (by omega)
  have h2' : ∀ x, (h.set id1 x) id2 = some (.arr 1 [[.rs 3 (tmCs args)]]) := fun x => by rw [Heap.set_ne hne]; exact h2
  have h1' : ∀ x, (h.set id1 x) id1 = some x := fun x => Heap.set_same h id1 x
  simp [w_loadV_op h1, w_store h1, splice, w1]
  by_cases k0 : t.lab.1 = 0
  · simp [k0]
    by_cases v0 : t.lab.2 < 0
    · simp [v0]; exact retA_of (hF (by omega) _)
    · simp [v0, w_loadV_op (h2' _)]
      by_cases v1 : t.lab.2 < args.length
      · have v1' : ¬ (args.length : Int) ≤ t.lab.2 := by omega
        have hk : t.lab.2.toNat < args.length := by omega
        have v0' : 0 ≤ t.lab.2 := by omega
        simp [v1', v1, v0', hk]
        refine callS_of ?_
        rw [tm_eta]
        refine term_Size_c _ ?_
        have hn := ha _ (List.getElem_mem hk)
        have hb : base args t.lab = args[t.lab.2.toNat].nodes := by
          simp [base, k0, List.getD_eq_getElem?_getD, hk]
        have e1 : szN 100000 args[t.lab.2.toNat] = (args[t.lab.2.toNat].nodes : Int) := by simp [szN, hn]
        have w2 : IntKind.i64.wrap ((args[t.lab.2.toNat].nodes : Int) - 1) = (args[t.lab.2.toNat].nodes : Int) - 1 := wrap_i64 (by omega) (by omega)
        have w3 : IntKind.i64.wrap (n + 1 + ((args[t.lab.2.toNat].nodes : Int) - 1)) = n + base args t.lab := by rw [wrap_i64 (by omega) (by omega), hb]; omega
        simp [w_loadV_op (h1' _), w_store (h1' _), splice, e1, w2, w3]
        exact retA_of (hT (.inr ⟨v0', v1⟩))
      · have v1' : (args.length : Int) ≤ t.lab.2 := by omega
        simp [v1']; exact retA_of (hF (by omega) _)
  · simp [k0]
    have := hT (.inl k0)
    have hb : base args t.lab = 1 := by simp [base, k0]
    rw [hb] at this
    exact retA_of this
theorem term_visit_c {args : List Tm} (ha : ∀ t, t ∈ args → t.nodes ≤ 100000) (hal : args.length ≤ 4611686018427387904) {id1 id2 : Nat} (hne : id2 ≠ id1) (t : Tm) : ∀ {h : Heap} {n : Int} {Q : AV → Heap → Prop}, h id1 = some (.arr 1 [[I n]]) → h id2 = some (.arr 1 [[.rs 3 (tmCs args)]]) → 0 ≤ n →
    n + 100000 * t.nodes ≤ 1000000000000000 → (vok args.length t = true → Q (B true) (h.set id1 (.arr 1 [[I (n + (sub args t).nodes)]]))) → (vok args.length t = false → ∀ m, Q (B false) (h.set id1 (.arr 1 [[I m]]))) →
    ACalls prog n_term_visit [tm t, .fn 100 [.op id1 0 0, .op id2 0 0]] h Q := by
  refine Rt.ind (P := fun t => ∀ {h : Heap} {n : Int} {Q : AV → Heap → Prop}, h id1 = some (.arr 1 [[I n]]) → h id2 = some (.arr 1 [[.rs 3 (tmCs args)]]) → 0 ≤ n →
    n + 100000 * t.nodes ≤ 1000000000000000 → (vok args.length t = true → Q (B true) (h.set id1 (.arr 1 [[I (n + (sub args t).nodes)]]))) → (vok args.length t = false → ∀ m, Q (B false) (h.set id1 (.arr 1 [[I m]]))) →
    ACalls prog n_term_visit [tm t, .fn 100 [.op id1 0 0, .op id2 0 0]] h Q) (fun a us ih => ?_) t
  intro h n Q h1 h2 n0 hm hT hF
  refine term_visit_call ?_
  unfold term_visit tm
  simp only [Rt.nodes] at hm
  have hlen := Rt.length_le us
  have hsl := subL_le ha us
  simp [tmC]
  refine loop_up us.length (fun k σ h' => σ = [I k] ∧ h' = h.set id1 (.arr 1 [[I (n + Rt.nodesL (subL args (us.take k)))]]) ∧ vokL args.length us = vokL args.length (us.drop k)) ⟨rfl, by simp [subL, Rt.nodesL, Heap.set_id h1], by simp⟩ (fun k σ' h' ⟨e, _⟩ => by rw [e]; rfl) ?_
  rintro k σ' h' K hk ⟨rfl, rfl, hi⟩ hK
  have g1 := Heap.set_same h id1 (.arr 1 [[I (n + Rt.nodesL (subL args (us.take k)))]])
  have g2 : (h.set id1 (.arr 1 [[I (n + Rt.nodesL (subL args (us.take k)))]])) id2 = some (.arr 1 [[.rs 3 (tmCs args)]]) := by rw [Heap.set_ne hne]; exact h2
  have hsk := nodesL_sub_le args us k
  by_cases hlt : k < us.length
  · have hlt' : (k : Int) < us.length := by omega
    have hn := kid_nodes hlt
    have hs := nodesL_sub_snoc (args := args) hlt
    have hs2 := Rt.nodesL_take_succ hlt
    have hs3 := Rt.nodesL_take_le us (k + 1)
    have hsk2 := subL_le ha (us.take k)
    simp [hlt', hlt]
    refine callS_of ?_
    rw [tm_eta]
    rw [vokL_drop hlt] at hi
    refine ih us[k] (List.getElem_mem hlt) g1 g2 (by omega) (by omega) (fun hv => ?_) (fun hv m => ?_)
    · rw [hv] at hi
      simp [wrap_k (k := k) (by omega)]
      refine hK hlt _ _ ⟨rfl, ?_, by rw [hi]; simp⟩
      rw [hs]
      congr 5
      omega
    · rw [hv] at hi
      simp
      exact retA_of (hF (by simp [vok, hi]) m)
  · have hkn : k = us.length := by omega
    subst hkn
    have hvl : vokL args.length us = true := by rw [hi, List.drop_length]; rfl
    simp
    refine callS_of ?_
    rw [show (.agg [I a.1, I a.2, .rs 3 (tmCs us)] : AV) = tm (.mk a us) from rfl]
    rw [List.take_length] at g1 g2
    refine term_Subst_1_c ha hal _ hne g1 g2 (by omega) (by omega) (fun hv => ?_) (fun hv m => ?_)
    · have := hT (by
        simp only [vok, hvl, Bool.true_and, Bool.or_eq_true, decide_eq_true_eq, Bool.and_eq_true]
        exact hv)
      rw [sub_nodes] at this
      rw [Heap.set_set]
      have e : n + (Rt.nodesL (subL args us) : Int) + (base args (Rt.mk a us).lab : Int) = n + ((base args a + Rt.nodesL (subL args us) : Nat) : Int) := by
        show n + (Rt.nodesL (subL args us) : Int) + (base args a : Int) = _
        omega
      rw [e]
      exact retA_of this
    · rw [Heap.set_set]
      refine retA_of (hF ?_ m)
      cases hc : vok args.length (.mk a us) with
      | false => rfl
      | true =>
        exfalso; apply hv
        simp only [vok, hvl, Bool.true_and, Bool.or_eq_true, decide_eq_true_eq, Bool.and_eq_true] at hc
        exact hc
theorem term_put_c (args : List Tm) (t : Tm) : vok args.length t = true → t.nodes ≤ 1000000000 → (sub args t).nodes ≤ 1000000000 → (∀ x, x ∈ args → x.nodes ≤ 1000000000) →
    ∀ {h : Heap} {Q : AV → Heap → Prop}, (∀ x h', SlO 3 (tmCs (sub args t).kids) h x h' → Q (.agg [I (sub args t).lab.1, I (sub args t).lab.2, x]) h') → ACalls prog n_term_put [tm t, .rs 3 (tmCs args)] h Q := by
  refine Rt.ind (P := fun t => vok args.length t = true → t.nodes ≤ 1000000000 → (sub args t).nodes ≤ 1000000000 → (∀ x, x ∈ args → x.nodes ≤ 1000000000) →
    ∀ {h : Heap} {Q : AV → Heap → Prop}, (∀ x h', SlO 3 (tmCs (sub args t).kids) h x h' → Q (.agg [I (sub args t).lab.1, I (sub args t).lab.2, x]) h') → ACalls prog n_term_put [tm t, .rs 3 (tmCs args)] h Q) (fun a us ih => ?_) t
  intro hv hm hsm ha h Q hq
  refine term_put_call ?_
  unfold term_put tm
  rw [sub_nodes] at hsm
  simp only [Rt.nodes] at hm
  have hlen := Rt.length_le us
  simp only [vok, Bool.and_eq_true, Bool.or_eq_true, decide_eq_true_eq] at hv
  obtain ⟨hvl, hv⟩ := hv
  have hvk : ∀ k (hk : k < us.length), vok args.length us[k] = true := fun k hk => by
    have : ∀ (l : List Tm), vokL args.length l = true → ∀ t, t ∈ l → vok args.length t = true := fun l => by
      induction l with
      | nil => intro _ t ht; cases ht
      | cons u l ih =>
        intro h t ht
        simp only [vokL, Bool.and_eq_true] at h
        rcases List.mem_cons.1 ht with rfl | ht
        · exact h.1
        · exact ih h.2 t ht
    exact this us hvl _ (List.getElem_mem hk)
  -- the loop, from whatever is there
  have loop : ∀ (b : Tm) (x0 : AV) (h0 : Heap), b.nodes + Rt.nodesL (subL args us) ≤ 1000000001 → (∀ x h', SlO 3 (tmCs (b.kids ++ subL args us)) h x h' → Q (.agg [I b.lab.1, I b.lab.2, x]) h') → SlO 3 (tmCs b.kids) h x0 h0 →
      loopS (fun s_9 h_10 K_11 => binA .lss (g s_9 0) (I us.length) fun x_12 => brA x_12 (idxA 3 (.rs 3 (tmCs us)) (g s_9 0) h_10 fun p_13 => loadG 3 p_13 h_10 fun c_14 =>
        callS prog n_term_put [(.agg [(g c_14 0), (g c_14 1), (g c_14 2)]), .rs 3 (tmCs args)] h_10 fun r_15 h_16 => aggA 3 r_15 fun c_17 =>
        appA 3 40 (g s_9 3) (.rs 3 [[(g c_17 0), (g c_17 1), (g c_17 2)]]) h_16 fun x_18 h_19 => oneA x_18 <| binA .add (g s_9 0) (I 1) fun x_20 =>
        K_11 [x_20, (g s_9 1), (g s_9 2), x_18] h_19) (retA (.agg [(g s_9 1), (g s_9 2), (g s_9 3)]) h_10 Q)) [(I 0), I b.lab.1, I b.lab.2, x0] h0 := by
    intro b x0 h0 hb hQ hs0
    have hbk : b.kids.length ≤ b.nodes := by have := Rt.length_le b.kids; rw [nodes_eta]; omega
    refine loop_up us.length (fun k σ h' => ∃ x, σ = [I k, I b.lab.1, I b.lab.2, x] ∧ SlO 3 (tmCs (b.kids ++ subL args (us.take k))) h x h') ⟨x0, rfl, by simpa [subL] using hs0⟩ (fun k σ' h' ⟨x, e, _⟩ => by rw [e]; rfl) ?_
    rintro k σ' h' K hk ⟨x, rfl, hs⟩ hK
    by_cases hlt : k < us.length
    · have hlt' : (k : Int) < us.length := by omega
      have hn := kid_nodes hlt
      have h1 := nodesL_sub_snoc (args := args) hlt
      have h2 := nodesL_sub_le args us (k + 1)
      have h3 := Rt.length_le (subL args (us.take k))
      simp [hlt', hlt]
      refine callS_of ?_
      rw [tm_eta]
      refine ACalls.wk1 (ih us[k] (List.getElem_mem hlt) (hvk k hlt) (by omega) (by omega) ha fun y h2 hy => ?_)
      obtain ⟨r1, r2⟩ := hy.wk (tmCs_sz _)
      refine ⟨_, _, Ref.aggs (.cons .refl (.cons .refl (.cons r1 .nil))), r2, ?_⟩
      simp
      refine hs.app (by simp; omega) fun x2 h3 hs2 => ?_
      rw [hs2.one]
      rw [wrap_k (k := k) (by omega)]
      refine hK hlt _ _ ⟨x2, rfl, ?_⟩
      have e : tmCs (b.kids ++ subL args (us.take (k + 1))) = tmCs (b.kids ++ subL args (us.take k)) ++ [tmC (sub args us[k])] := by
        rw [subL_snoc hlt, ← List.append_assoc, tmCs_eq, tmCs_eq, List.map_append]; rfl
      rw [e, tmC_e]
      exact hs2
    · have hkn : k = us.length := by omega
      subst hkn
      simp
      rw [List.take_length] at hs
      exact retA_of (hQ x h' hs)
  simp [tmC]
  by_cases k0 : a.1 = 0
  · have hv' : 0 ≤ a.2 ∧ a.2 < args.length := by omega
    have hk : a.2.toNat < args.length := by omega
    simp [k0, hv'.1, hv'.2, hk]
    refine callS_of ?_
    rw [tm_eta]
    have hg : args.getD a.2.toNat default = args[a.2.toNat] := by simp [List.getD_eq_getElem?_getD, hk]
    have hbase : base args a = args[a.2.toNat].nodes := by simp [base, k0, List.getD_eq_getElem?_getD, hk]
    rw [hbase] at hsm
    refine term_copied_c _ (ha _ (List.getElem_mem hk)) fun x0 h0 hs0 => ?_
    simp
    refine loop args[a.2.toNat] x0 h0 (by omega) (fun x h' hs => ?_) hs0
    have := hq x h'
    unfold sub at this
    rw [if_pos k0, hg] at this
    exact this hs
  · simp [k0]
    have hbase : base args a = 1 := by simp [base, k0]
    rw [hbase] at hsm
    refine loop (.mk a []) .e0 h (by simp only [Rt.nodes, Rt.nodesL]; omega) (fun x h' hs => ?_) (SlO.nil 3)
    have := hq x h'
    unfold sub at this
    rw [if_neg k0] at this
    exact this hs
theorem term_put_f (args : List Tm) (t : Tm) (hv : vok args.length t = true) (h1 : t.nodes ≤ 1000000000) (h2 : (sub args t).nodes ≤ 1000000000) (ha : ∀ x, x ∈ args → x.nodes ≤ 1000000000)
    {h : Heap} {Q : AV → Heap → Prop} (hq : Q (tm (sub args t)) h) : ACalls prog n_term_put [tm t, .rs 3 (tmCs args)] h Q :=
  ACalls.wk1 (term_put_c args t hv h1 h2 ha fun x h' hs => by
    obtain ⟨r1, r2⟩ := hs.wk (tmCs_sz _)
    exact ⟨_, _, Ref.aggs (.cons .refl (.cons .refl (.cons r1 .nil))), r2, by rw [tm_eta]; exact hq⟩)
theorem vref02_Replace_c (args : List Tm) (t : Tm) : vok args.length t = true → t.nodes ≤ 1000000000 → (sub args t).nodes ≤ 1000000000 → (∀ x, x ∈ args → x.nodes ≤ 1000000000) →
    ∀ {h : Heap} {Q : AV → Heap → Prop}, (∀ x h', SlO 3 (tmCs (sub args t).kids) h x h' → Q (.agg [I (sub args t).lab.1, I (sub args t).lab.2, x]) h') → ACalls prog n_vref02_Replace [tm t, .rs 3 (tmCs args)] h Q := by
  refine Rt.ind (P := fun t => vok args.length t = true → t.nodes ≤ 1000000000 → (sub args t).nodes ≤ 1000000000 → (∀ x, x ∈ args → x.nodes ≤ 1000000000) →
    ∀ {h : Heap} {Q : AV → Heap → Prop}, (∀ x h', SlO 3 (tmCs (sub args t).kids) h x h' → Q (.agg [I (sub args t).lab.1, I (sub args t).lab.2, x]) h') → ACalls prog n_vref02_Replace [tm t, .rs 3 (tmCs args)] h Q) (fun a us ih => ?_) t
  intro hv hm hsm ha h Q hq
  refine vref02_Replace_call ?_
  unfold vref02_Replace tm
  rw [sub_nodes] at hsm
  simp only [Rt.nodes] at hm
  have hlen := Rt.length_le us
  simp only [vok, Bool.and_eq_true, Bool.or_eq_true, decide_eq_true_eq] at hv
  obtain ⟨hvl, hv⟩ := hv
  have hvk : ∀ k (hk : k < us.length), vok args.length us[k] = true := fun k hk => by
    have : ∀ (l : List Tm), vokL args.length l = true → ∀ t, t ∈ l → vok args.length t = true := fun l => by
      induction l with
      | nil => intro _ t ht; cases ht
      | cons u l ih =>
        intro h t ht
        simp only [vokL, Bool.and_eq_true] at h
        rcases List.mem_cons.1 ht with rfl | ht
        · exact h.1
        · exact ih h.2 t ht
    exact this us hvl _ (List.getElem_mem hk)
  -- the loop, from whatever is there
  have loop : ∀ (b : Tm) (x0 : AV) (h0 : Heap), b.nodes + Rt.nodesL (subL args us) ≤ 1000000001 → (∀ x h', SlO 3 (tmCs (b.kids ++ subL args us)) h x h' → Q (.agg [I b.lab.1, I b.lab.2, x]) h') → SlO 3 (tmCs b.kids) h x0 h0 →
      loopS (fun s_9 h_10 K_11 => binA .lss (g s_9 0) (I us.length) fun x_12 => brA x_12 (idxA 3 (.rs 3 (tmCs us)) (g s_9 0) h_10 fun p_13 => loadG 3 p_13 h_10 fun c_14 =>
        callS prog n_vref02_Replace [(.agg [(g c_14 0), (g c_14 1), (g c_14 2)]), .rs 3 (tmCs args)] h_10 fun r_15 h_16 => aggA 3 r_15 fun c_17 =>
        appA 3 40 (g s_9 3) (.rs 3 [[(g c_17 0), (g c_17 1), (g c_17 2)]]) h_16 fun x_18 h_19 => oneA x_18 <| binA .add (g s_9 0) (I 1) fun x_20 =>
        K_11 [x_20, (g s_9 1), (g s_9 2), x_18] h_19) (retA (.agg [(g s_9 1), (g s_9 2), (g s_9 3)]) h_10 Q)) [(I 0), I b.lab.1, I b.lab.2, x0] h0 := by
    intro b x0 h0 hb hQ hs0
    have hbk : b.kids.length ≤ b.nodes := by have := Rt.length_le b.kids; rw [nodes_eta]; omega
    refine loop_up us.length (fun k σ h' => ∃ x, σ = [I k, I b.lab.1, I b.lab.2, x] ∧ SlO 3 (tmCs (b.kids ++ subL args (us.take k))) h x h') ⟨x0, rfl, by simpa [subL] using hs0⟩ (fun k σ' h' ⟨x, e, _⟩ => by rw [e]; rfl) ?_
    rintro k σ' h' K hk ⟨x, rfl, hs⟩ hK
    by_cases hlt : k < us.length
    · have hlt' : (k : Int) < us.length := by omega
      have hn := kid_nodes hlt
      have h1 := nodesL_sub_snoc (args := args) hlt
      have h2 := nodesL_sub_le args us (k + 1)
      have h3 := Rt.length_le (subL args (us.take k))
      simp [hlt', hlt]
      refine callS_of ?_
      rw [tm_eta]
      refine ACalls.wk1 (ih us[k] (List.getElem_mem hlt) (hvk k hlt) (by omega) (by omega) ha fun y h2 hy => ?_)
      obtain ⟨r1, r2⟩ := hy.wk (tmCs_sz _)
      refine ⟨_, _, Ref.aggs (.cons .refl (.cons .refl (.cons r1 .nil))), r2, ?_⟩
      simp
      refine hs.app (by simp; omega) fun x2 h3 hs2 => ?_
      rw [hs2.one]
      rw [wrap_k (k := k) (by omega)]
      refine hK hlt _ _ ⟨x2, rfl, ?_⟩
      have e : tmCs (b.kids ++ subL args (us.take (k + 1))) = tmCs (b.kids ++ subL args (us.take k)) ++ [tmC (sub args us[k])] := by
        rw [subL_snoc hlt, ← List.append_assoc, tmCs_eq, tmCs_eq, List.map_append]; rfl
      rw [e, tmC_e]
      exact hs2
    · have hkn : k = us.length := by omega
      subst hkn
      simp
      rw [List.take_length] at hs
      exact retA_of (hQ x h' hs)
  simp [tmC]
  by_cases k0 : a.1 = 0
  · have hv' : 0 ≤ a.2 ∧ a.2 < args.length := by omega
    have hk : a.2.toNat < args.length := by omega
    simp [k0, hv'.1, hv'.2, hk]
    refine callS_of ?_
    rw [tm_eta]
    have hg : args.getD a.2.toNat default = args[a.2.toNat] := by simp [List.getD_eq_getElem?_getD, hk]
    have hbase : base args a = args[a.2.toNat].nodes := by simp [base, k0, List.getD_eq_getElem?_getD, hk]
    rw [hbase] at hsm
    refine vref02_Copy_c _ (ha _ (List.getElem_mem hk)) fun x0 h0 hs0 => ?_
    simp
    refine loop args[a.2.toNat] x0 h0 (by omega) (fun x h' hs => ?_) hs0
    have := hq x h'
    unfold sub at this
    rw [if_pos k0, hg] at this
    exact this hs
  · simp [k0]
    have hbase : base args a = 1 := by simp [base, k0]
    rw [hbase] at hsm
    refine loop (.mk a []) .e0 h (by simp only [Rt.nodes, Rt.nodesL]; omega) (fun x h' hs => ?_) (SlO.nil 3)
    have := hq x h'
    unfold sub at this
    rw [if_neg k0] at this
    exact this hs
theorem vref02_Replace_f (args : List Tm) (t : Tm) (hv : vok args.length t = true) (h1 : t.nodes ≤ 1000000000) (h2 : (sub args t).nodes ≤ 1000000000) (ha : ∀ x, x ∈ args → x.nodes ≤ 1000000000)
    {h : Heap} {Q : AV → Heap → Prop} (hq : Q (tm (sub args t)) h) : ACalls prog n_vref02_Replace [tm t, .rs 3 (tmCs args)] h Q :=
  ACalls.wk1 (vref02_Replace_c args t hv h1 h2 ha fun x h' hs => by
    obtain ⟨r1, r2⟩ := hs.wk (tmCs_sz _)
    exact ⟨_, _, Ref.aggs (.cons .refl (.cons .refl (.cons r1 .nil))), r2, by rw [tm_eta]; exact hq⟩)
/-! ### Subst -/
def tz : Tm := .mk (0, 0) []
theorem ret_tz {h h' : Heap} {Q : AV → Heap → Prop} {n : Int} (hh : HRef h' h) (hq : Q (.tup [tm tz, I n]) h) : retA (.tup [.agg [.val (.int .i64 0), .val (.int .i64 0), .e0], .val (.int .i64 n)]) h' Q :=
  retA_wk (Ref.tups (.cons (Ref.aggs (.cons .refl (.cons .refl (.cons .e0 .nil)))) (.cons .refl .nil))) hh hq
theorem HRef.sub {h h' : Heap} (hs : ∀ i n, h i = some n → h' i = some n) : HRef h' h := fun i n hn => ⟨n, hs i n hn, .refl⟩
def substE (t : Tm) (args : List Tm) : Tm × Int :=
  if decide (100000 < t.nodes) || bigs args then (tz, 3) else if !vok args.length t then (tz, 2) else if 100000 < (sub args t).nodes then (tz, 3) else (sub args t, 0)
theorem term_Subst_c (t : Tm) (args : List Tm) (hal : args.length ≤ 4611686018427387904) {h : Heap} {Q : AV → Heap → Prop} (hq : Q (.tup [tm (substE t args).1, I (substE t args).2]) h) : ACalls prog n_term_Subst [tm t, .rs 3 (tmCs args)] h Q := by
  refine term_Subst_call ?_
  unfold term_Subst tm
  simp
  intro id2 hid2
  unfold substE at hq
  have hr1 := HRef.drop (n := .arr 1 [[.rs 3 (tmCs args)]]) hid2
  refine callS_of ?_
  rw [tm_eta]
  refine term_large_c t ?_
  by_cases hl : 100000 < t.nodes
  · simp [hl]; exact ret_tz hr1 (by simpa [hl] using hq)
  simp [hl, w_loadV_op (Heap.set_same h id2 (.arr 1 [[.rs 3 (tmCs args)]]))]
  refine callS_of (ContainsFunc_tm args hal ?_)
  cases hb : bigs args with
  | true => simp; exact ret_tz hr1 (by simpa [hb] using hq)
  | false =>
    have ha := bigs_f hb
    simp
    intro id1 hid1
    have hne : id2 ≠ id1 := fun e => by subst e; rw [Heap.set_same] at hid1; cases hid1
    have g1 : ∀ x, ((h.set id2 (.arr 1 [[.rs 3 (tmCs args)]])).set id1 x) id1 = some x := fun x => Heap.set_same _ _ _
    have g2 : ∀ x, ((h.set id2 (.arr 1 [[.rs 3 (tmCs args)]])).set id1 x) id2 = some (.arr 1 [[.rs 3 (tmCs args)]]) := fun x => by rw [Heap.set_ne hne, Heap.set_same]
    have hr2 : ∀ x, HRef ((h.set id2 (.arr 1 [[.rs 3 (tmCs args)]])).set id1 x) h := fun x => HRef.sub fun i n hn => by
      have e2 : i ≠ id2 := fun e => by subst e; rw [hid2] at hn; cases hn
      have e1 : i ≠ id1 := fun e => by subst e; rw [Heap.set_ne e2, hn] at hid1; cases hid1
      rw [Heap.set_ne e1, Heap.set_ne e2]; exact hn
    simp [w_store (g1 _), splice]
    refine callS_of ?_
    try rw [tm_eta]
    refine term_visit_c ha hal hne t (g1 _) (g2 _) (by omega) (by omega) (fun hv => ?_) (fun hv m => ?_)
    · simp only [Heap.set_set]
      simp [w_loadV_op (g1 _), w_loadV_op (g2 _)]
      have hsz := sub_le ha t
      by_cases hbig : 100000 < (sub args t).nodes
      · have hbig' : (100000 : Int) < (sub args t).nodes := by omega
        simp [hbig']
        exact ret_tz (hr2 _) (by simpa [hl, hb, hv, hbig] using hq)
      · have hbig' : ¬ (100000 : Int) < (sub args t).nodes := by omega
        simp [hbig']
        refine callS_of ?_
        try rw [tm_eta]
        refine term_put_f args t hv (by omega) (by omega) (fun x hx => by have := ha x hx; omega) ?_
        simp [tm]
        refine retA_wk .refl (hr2 _) ?_
        try rw [tm_eta]
        simpa [hl, hb, hv, hbig] using hq
    · simp only [Heap.set_set]
      simp
      exact ret_tz (hr2 _) (by simpa [hl, hb, hv] using hq)
end Am
