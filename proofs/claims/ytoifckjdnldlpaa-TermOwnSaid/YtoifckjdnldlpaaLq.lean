/- Subst and Apply with own results; turn. -/
import Derived.Test.YtoifckjdnldlpaaLp
set_option linter.unusedVariables false
set_option linter.unusedSimpArgs false
namespace Am
open Go Go.Proofs.Try
/-- What lay there lies there still, beside the ids. -/
def Ext (h h' : Heap) (L : List Nat) : Prop := ∀ j n, h j = some n → h' j = some n ∧ ¬ j ∈ L
theorem Ext.refl (h : Heap) : Ext h h [] := fun _ _ hj => ⟨hj, by simp⟩
theorem Ext.new {h h0 h1 : Heap} {L : List Nat} (E : Ext h h0 []) (N : New h0 h1 L) : Ext h h1 L := fun j n hj => by
  have h2 := (E j n hj).1
  have : ¬ j ∈ L := fun e => by rw [N.2 j e] at h2; cases h2
  exact ⟨by rw [N.1 j this]; exact h2, this⟩
theorem Ext.set {h h0 : Heap} (E : Ext h h0 []) {i : Nat} (hi : h0 i = none) (n : Node) : Ext h (h0.set i n) [] := fun j m hj => by
  have h2 := (E j m hj).1
  have : j ≠ i := fun e => by subst e; rw [hi] at h2; cases h2
  exact ⟨by rw [Heap.set_ne this]; exact h2, by simp⟩
theorem Ext.set2 {h h0 : Heap} {i : Nat} {n : Node} (E : Ext h (h0.set i n) []) (hi : h i = none) (m : Node) : Ext h (h0.set i m) [] := fun j k hj => by
  have h2 := (E j k hj).1
  have : j ≠ i := fun e => by subst e; rw [hi] at hj; cases hj
  rw [Heap.set_ne this] at h2 ⊢
  exact ⟨h2, by simp⟩
def OwnT (h : Heap) (Q : AV → Heap → Prop) : Prop := ∀ (a b n : Int) (us : List Tm) (x : AV) (h' : Heap) (L : List Nat), OL h' us L x → Ext h h' L → (∀ k, oneA x k = k) → Rt.nodesL us ≤ 1000000000 → Q (.tup [.agg [I a, I b, x], I n]) h'
theorem OwnT.e0 {h h' : Heap} {Q : AV → Heap → Prop} (H : OwnT h Q) (E : Ext h h' []) (n : Int) : retA (.tup [.agg [.val (.int .i64 0), .val (.int .i64 0), .e0], .val (.int .i64 n)]) h' Q :=
  retA_of (H 0 0 n [] .e0 h' [] (.inl ⟨rfl, rfl, rfl⟩) E (fun k => rfl) (by simp [Rt.nodesL]))
theorem kids_le (t : Tm) : t.kids.length ≤ t.nodes := by
  have := Rt.length_le t.kids; rw [nodes_eta]; omega
theorem term_Subst_o (t : Tm) (args : List Tm) (hal : args.length ≤ 4611686018427387904) {h : Heap} {Q : AV → Heap → Prop} (hq : OwnT h Q) : ACalls prog n_term_Subst [tm t, .rs 3 (tmCs args)] h Q := by
  refine term_Subst_call ?_
  unfold term_Subst tm
  simp
  intro id2 hid2
  have hr1 := (Ext.refl h).set hid2 (.arr 1 [[.rs 3 (tmCs args)]])
  refine callS_of ?_
  rw [tm_eta]
  refine term_large_c t ?_
  by_cases hl : 100000 < t.nodes
  · simp [hl]; exact hq.e0 hr1 _
  simp [hl, w_loadV_op (Heap.set_same h id2 (.arr 1 [[.rs 3 (tmCs args)]]))]
  refine callS_of (ContainsFunc_tm args hal ?_)
  cases hb : bigs args with
  | true => simp; exact hq.e0 hr1 _
  | false =>
    have ha := bigs_f hb
    simp
    intro id1 hid1
    have hne : id2 ≠ id1 := fun e => by subst e; rw [Heap.set_same] at hid1; cases hid1
    have g1 : ∀ x, ((h.set id2 (.arr 1 [[.rs 3 (tmCs args)]])).set id1 x) id1 = some x := fun x => Heap.set_same _ _ _
    have g2 : ∀ x, ((h.set id2 (.arr 1 [[.rs 3 (tmCs args)]])).set id1 x) id2 = some (.arr 1 [[.rs 3 (tmCs args)]]) := fun x => by rw [Heap.set_ne hne, Heap.set_same]
    have hr2 : ∀ x, Ext h ((h.set id2 (.arr 1 [[.rs 3 (tmCs args)]])).set id1 x) [] := fun x => hr1.set hid1 x
    simp [w_store (g1 _), splice]
    refine callS_of ?_
    try rw [tm_eta]
    refine term_visit_c ha hal hne t (g1 _) (g2 _) (by omega) (by omega) (fun hv => ?_) (fun hv m => ?_)
    · simp only [Heap.set_set]
      simp [w_loadV_op (g1 _), w_loadV_op (g2 _)]
      have hsz := sub_le ha t
      by_cases hbig : 100000 < (sub args t).nodes
      · have hbig' : (100000 : Int) < (sub args t).nodes := by omega
        simp [hbig']
        exact hq.e0 (hr2 _) _
      · have hbig' : ¬ (100000 : Int) < (sub args t).nodes := by omega
        simp [hbig']
        refine callS_of ?_
        try rw [tm_eta]
        refine term_put_o args t hv (by omega) (by omega) (fun x hx => by have := ha x hx; omega) fun x h' L hx hn h1 => ?_
        have hk := nodes_eta (sub args t)
        simp
        exact retA_of (hq _ _ _ _ x h' L hx ((hr2 _).new hn) h1 (by omega))
    · simp only [Heap.set_set]
      simp
      exact hq.e0 (hr2 _) _
theorem term_Apply_o (t : Tm) (args : List Tm) (hal : args.length ≤ 10000000000000) {h : Heap} {Q : AV → Heap → Prop} (hq : OwnT h Q) : ACalls prog n_term_Apply [tm t, .rs 3 (tmCs args)] h Q := by
  refine term_Apply_call ?_
  unfold term_Apply tm
  simp
  refine callS_of ?_
  simp only [tm_eta]
  refine term_large_c t ?_
  by_cases hl : 100000 < t.nodes
  · simp [hl]; exact hq.e0 (Ext.refl h) _
  simp [hl]
  refine callS_of (ContainsFunc_tm args (by omega) ?_)
  cases hb : bigs args with
  | true => simp; exact hq.e0 (Ext.refl h) _
  | false =>
    have ha := bigs_f hb
    simp
    refine callS_of (term_Size_c t ?_)
    simp
    have e0 : szN 100000 t = t.nodes := by simp [szN]; omega
    rw [e0]
    have hle : ∀ k, Rt.nodesL (args.take k) ≤ 100000 * k := fun k => by
      induction k with
      | zero => simp [Rt.nodesL]
      | succ k ih =>
        by_cases hk : k < args.length
        · rw [Rt.nodesL_take_succ hk]; have := ha _ (List.getElem_mem hk); omega
        · rw [List.take_of_length_le (by omega)] at ih ⊢; omega
    refine loop_up args.length (fun k σ h' => σ = [I ((t.nodes + Rt.nodesL (args.take k) : Nat) : Int), I k] ∧ h' = h) ⟨by simp [Rt.nodesL], rfl⟩ (fun k σ' h' ⟨e, _⟩ => by rw [e]; rfl) ?_
    rintro k σ' h' K hk ⟨rfl, rfl⟩ hK
    have hlk := hle k
    by_cases hlt : k < args.length
    · have hlt' : (k : Int) < args.length := by omega
      have hn := ha _ (List.getElem_mem hlt)
      simp only [g_0, g_1, w_lss, hlt', decide_true, w_brA, if_true]
      simp [hlt]
      refine callS_of ?_
      simp only [tm_eta]
      refine term_Size_c _ ?_
      have e1 : szN 100000 args[k] = args[k].nodes := by simp [szN, hn]
      have w1 : IntKind.i64.wrap ((t.nodes : Int) + (Rt.nodesL (args.take k) : Int) + (args[k].nodes : Int)) = ((t.nodes + Rt.nodesL (args.take (k + 1)) : Nat) : Int) := by
        rw [Rt.nodesL_take_succ hlt, wrap_i64 (by omega) (by omega)]; omega
      simp [e1, w1, wrap_k (k := k) (by omega)]
      exact hK hlt _ _ ⟨by simp, rfl⟩
    · have hkn : k = args.length := by omega
      subst hkn
      rw [List.take_length]
      simp only [g_0, g_1, w_lss, Int.lt_irrefl, decide_false, w_brA, Bool.false_eq_true, if_false, w_gtr, decide_eq_true_eq]
      by_cases hbig : 100000 < t.nodes + Rt.nodesL args
      · rw [if_pos (by omega)]
        exact hq.e0 (Ext.refl _) _
      · rw [if_neg (by omega)]
        have hal2 := Rt.length_le args
        have hk2 := kids_le t
        have hk3 := nodes_eta t
        refine callS_of (term_copied_o t (by omega) fun x h0 L0 hs0 hn0 hx0 => ?_)
        simp
        refine loop_up args.length (fun k σ h2 => ∃ x L, σ = [I k, I t.lab.1, I t.lab.2, x] ∧ OL h2 (t.kids ++ args.take k) L x ∧ New h' h2 L ∧ ∀ k, oneA x k = k) ⟨x, L0, rfl, by simpa using hs0, hn0, hx0⟩ (fun k σ' h' ⟨x, L, e, _⟩ => by rw [e]; rfl) ?_
        rintro j σ2 h2 K2 hj ⟨y, L, rfl, hs, hnw, hy1⟩ hK2
        by_cases hjl : j < args.length
        · have hjl' : (j : Int) < args.length := by omega
          have hnn := ha _ (List.getElem_mem hjl)
          simp [hjl', hjl]
          refine callS_of ?_
          rw [tm_eta]
          refine term_copied_o args[j] (by omega) fun z h3 L3 hz hn3 _ => ?_
          simp
          refine OL.app hs hnw (OT_iff.2 ⟨z, rfl, hz⟩ : OT h3 (.mk args[j].lab args[j].kids) L3 _) hn3 (by simp; omega) fun x2 h4 L4 hs2 hn4 h12 => ?_
          rw [h12, wrap_k (k := j) (by omega)]
          refine hK2 hjl _ _ ⟨x2, L4, rfl, ?_, hn4, h12⟩
          have e : (Rt.mk args[j].lab args[j].kids : Tm) = args[j] := by cases args[j]; rfl
          rw [List.take_succ_eq_append_getElem hjl, ← List.append_assoc, ← e]
          exact hs2
        · have hjn : j = args.length := by omega
          subst hjn
          simp
          rw [List.take_length] at hs
          exact retA_of (hq _ _ _ _ y h2 L hs ((Ext.refl _).new hnw) hy1 (by rw [Rt.nodesL_append]; omega))
end Am
