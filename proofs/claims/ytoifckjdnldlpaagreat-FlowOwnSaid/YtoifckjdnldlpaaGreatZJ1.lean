/- J1: joined of La, Lb, Lc, Ld, Le, Lf, Lg, Lh, Li. -/
import Derived.Test.YtoifckjdnldlpaaGreatZF02
import Derived.Test.YtoifckjdnldlpaaGreatZK2
set_option linter.unusedVariables false
set_option linter.unusedSimpArgs false
namespace Am
open Go Go.Proofs.Tryz
def szN {α : Type} (c : Nat) (t : Rt α) : Int := if t.nodes ≤ c then t.nodes else c + 1
def szD {α : Type} (c : Nat) (t : Rt α) : Int := if t.nodes ≤ c then t.depth else 0
theorem tmC_e (t : Tm) : tmC t = [I t.lab.1, I t.lab.2, .rs 3 (tmCs t.kids)] := by cases t; rfl
theorem srC_e (t : Srt) : True := trivial
theorem sr_eta (s : Srt) : (.agg [srC s] : AV) = sr s := rfl
def Meas (N D : Nat) (L d L' : Int) : Prop := -1 ≤ L' ∧ L' ≤ L ∧ 0 ≤ d ∧ d ≤ L - L' ∧ (N ≤ L → L' = L - N ∧ d = D) ∧ (L < N → L' = -1)
theorem term_measure_c {id : Nat} {Q : AV → Heap → Prop} (t : Tm) : ∀ {h : Heap} {L : Int}, h id = some (.arr 1 [[I L]]) → 0 ≤ L → L ≤ 1000000000 →
    (∀ d L', Meas t.nodes t.depth L d L' → Q (I d) (h.set id (.arr 1 [[I L']]))) → ACalls prog n_term_measure [tm t, .op id 0 0] h Q := by
  revert Q
  refine Rt.ind (P := fun t => ∀ {Q : AV → Heap → Prop} {h : Heap} {L : Int}, h id = some (.arr 1 [[I L]]) → 0 ≤ L → L ≤ 1000000000 →
    (∀ d L', Meas t.nodes t.depth L d L' → Q (I d) (h.set id (.arr 1 [[I L']]))) → ACalls prog n_term_measure [tm t, .op id 0 0] h Q) (fun a us ih => ?_) t
  intro Q h L hh h0 h1 hq
  refine term_measure_call ?_
  unfold term_measure tm
  have hw : IntKind.i64.wrap (L - 1) = L - 1 := wrap_i64 (by omega) (by omega)
  simp [tmC, w_loadV_op hh, w_store hh, splice, hw]
  refine loop_up us.length (fun k σ h' => ∃ d Lk, σ = [I d, I k] ∧ h' = h.set id (.arr 1 [[I Lk]]) ∧ -1 ≤ Lk ∧ Lk ≤ L - 1 ∧ 0 ≤ d ∧ d ≤ L - 1 - Lk ∧
    ((Rt.nodesL (us.take k) : Int) ≤ L - 1 → Lk = L - 1 - Rt.nodesL (us.take k) ∧ d = Rt.depthL (us.take k)) ∧ (L - 1 < Rt.nodesL (us.take k) → Lk = -1)) ?_ ?_ ?_
  · exact ⟨0, L - 1, rfl, rfl, by omega, by omega, by omega, by omega, fun _ => ⟨by simp [Rt.nodesL], by simp [Rt.depthL]⟩, fun h => by simp [Rt.nodesL] at h; omega⟩
  · rintro k σ' h' ⟨d, Lk, rfl, rfl, _⟩; rfl
  rintro k σ' h' K hk ⟨d, Lk, rfl, rfl, b1, b2, b3, b4, b5, b6⟩ hK
  have hh' := Heap.set_same h id (.arr 1 [[I Lk]])
  have hle := Rt.nodesL_take_le us k
  by_cases hlt : k < us.length
  · have hlt' : (k : Int) < us.length := by omega
    simp [hlt', hlt, w_loadV_op hh']
    have hn1 : (Rt.mk a us).nodes = Rt.nodesL us + 1 := by simp [Rt.nodes]
    by_cases hneg : Lk < 0
    · simp [hneg]
      refine retA_of (hq 0 Lk ⟨b1, by omega, by omega, by omega, fun h => ?_, fun _ => by omega⟩)
      exfalso; by_cases hc : (Rt.nodesL (us.take k) : Int) ≤ L - 1
      · obtain ⟨e1, e2⟩ := b5 hc; omega
      · omega
    · simp [hneg]
      refine callS_of ?_
      rw [tm_eta]
      refine ih us[k] (List.getElem_mem hlt) hh' (by omega) (by omega) fun d' L' hM => ?_
      have hl := Rt.length_le (us.take k)
      rw [List.length_take, Nat.min_eq_left hk] at hl
      have hc : (Rt.nodesL (us.take k) : Int) ≤ L - 1 := by
        by_cases hc : (Rt.nodesL (us.take k) : Int) ≤ L - 1
        · exact hc
        · have := b6 (by omega); omega
      have hw2 : IntKind.i64.wrap ((k : Int) + 1) = (k + 1 : Nat) := wrap_i64 (by omega) (by omega)
      obtain ⟨e1, e2⟩ := b5 hc
      obtain ⟨m1, m2, m3, m4, m5, m6⟩ := hM
      rw [Heap.set_set, w_max, hw2]
      refine hK hlt _ _ ⟨_, L', rfl, rfl, m1, by omega, by split <;> omega, by split <;> omega, fun hc2 => ?_, fun hc2 => ?_⟩
      · rw [Rt.nodesL_take_succ hlt] at hc2 ⊢
        rw [Rt.depthL_take_succ hlt]
        obtain ⟨f1, f2⟩ := m5 (by omega)
        exact ⟨by omega, by split <;> omega⟩
      · rw [Rt.nodesL_take_succ hlt] at hc2
        exact m6 (by omega)
  · have hlt' : ¬ ((k : Int) < us.length) := by omega
    have hw3 : IntKind.i64.wrap (d + 1) = d + 1 := wrap_i64 (by omega) (by omega)
    have hkn : k = us.length := by omega
    simp [hlt', hw3]
    rw [hkn, List.take_length] at b5 b6
    refine retA_of (hq (d + 1) Lk ⟨b1, by omega, by omega, by omega, fun h => ?_, fun h => ?_⟩)
    · simp only [Rt.nodes] at h ⊢
      obtain ⟨e1, e2⟩ := b5 (by omega)
      exact ⟨by omega, by simp [Rt.depth, e2]⟩
    · simp only [Rt.nodes] at h
      exact b6 (by omega)
theorem sorts_measure_c {id : Nat} {Q : AV → Heap → Prop} (t : Srt) : ∀ {h : Heap} {L : Int}, h id = some (.arr 1 [[I L]]) → 0 ≤ L → L ≤ 1000000000 →
    (∀ d L', Meas t.nodes t.depth L d L' → Q (I d) (h.set id (.arr 1 [[I L']]))) → ACalls prog n_sorts_measure [sr t, .op id 0 0] h Q := by
  revert Q
  refine Rt.ind (P := fun t => ∀ {Q : AV → Heap → Prop} {h : Heap} {L : Int}, h id = some (.arr 1 [[I L]]) → 0 ≤ L → L ≤ 1000000000 →
    (∀ d L', Meas t.nodes t.depth L d L' → Q (I d) (h.set id (.arr 1 [[I L']]))) → ACalls prog n_sorts_measure [sr t, .op id 0 0] h Q) (fun a us ih => ?_) t
  intro Q h L hh h0 h1 hq
  refine sorts_measure_call ?_
  unfold sorts_measure sr
  have hw : IntKind.i64.wrap (L - 1) = L - 1 := wrap_i64 (by omega) (by omega)
  simp [srC, w_loadV_op hh, w_store hh, splice, hw]
  refine loop_up us.length (fun k σ h' => ∃ d Lk, σ = [I d, I k] ∧ h' = h.set id (.arr 1 [[I Lk]]) ∧ -1 ≤ Lk ∧ Lk ≤ L - 1 ∧ 0 ≤ d ∧ d ≤ L - 1 - Lk ∧
    ((Rt.nodesL (us.take k) : Int) ≤ L - 1 → Lk = L - 1 - Rt.nodesL (us.take k) ∧ d = Rt.depthL (us.take k)) ∧ (L - 1 < Rt.nodesL (us.take k) → Lk = -1)) ?_ ?_ ?_
  · exact ⟨0, L - 1, rfl, rfl, by omega, by omega, by omega, by omega, fun _ => ⟨by simp [Rt.nodesL], by simp [Rt.depthL]⟩, fun h => by simp [Rt.nodesL] at h; omega⟩
  · rintro k σ' h' ⟨d, Lk, rfl, rfl, _⟩; rfl
  rintro k σ' h' K hk ⟨d, Lk, rfl, rfl, b1, b2, b3, b4, b5, b6⟩ hK
  have hh' := Heap.set_same h id (.arr 1 [[I Lk]])
  have hle := Rt.nodesL_take_le us k
  by_cases hlt : k < us.length
  · have hlt' : (k : Int) < us.length := by omega
    simp [hlt', hlt, w_loadV_op hh']
    have hn1 : (Rt.mk a us).nodes = Rt.nodesL us + 1 := by simp [Rt.nodes]
    by_cases hneg : Lk < 0
    · simp [hneg]
      refine retA_of (hq 0 Lk ⟨b1, by omega, by omega, by omega, fun h => ?_, fun _ => by omega⟩)
      exfalso; by_cases hc : (Rt.nodesL (us.take k) : Int) ≤ L - 1
      · obtain ⟨e1, e2⟩ := b5 hc; omega
      · omega
    · simp [hneg]
      refine callS_of ?_
      rw [sr_eta]
      refine ih us[k] (List.getElem_mem hlt) hh' (by omega) (by omega) fun d' L' hM => ?_
      have hl := Rt.length_le (us.take k)
      rw [List.length_take, Nat.min_eq_left hk] at hl
      have hc : (Rt.nodesL (us.take k) : Int) ≤ L - 1 := by
        by_cases hc : (Rt.nodesL (us.take k) : Int) ≤ L - 1
        · exact hc
        · have := b6 (by omega); omega
      have hw2 : IntKind.i64.wrap ((k : Int) + 1) = (k + 1 : Nat) := wrap_i64 (by omega) (by omega)
      obtain ⟨e1, e2⟩ := b5 hc
      obtain ⟨m1, m2, m3, m4, m5, m6⟩ := hM
      rw [Heap.set_set, w_max, hw2]
      refine hK hlt _ _ ⟨_, L', rfl, rfl, m1, by omega, by split <;> omega, by split <;> omega, fun hc2 => ?_, fun hc2 => ?_⟩
      · rw [Rt.nodesL_take_succ hlt] at hc2 ⊢
        rw [Rt.depthL_take_succ hlt]
        obtain ⟨f1, f2⟩ := m5 (by omega)
        exact ⟨by omega, by split <;> omega⟩
      · rw [Rt.nodesL_take_succ hlt] at hc2
        exact m6 (by omega)
  · have hlt' : ¬ ((k : Int) < us.length) := by omega
    have hw3 : IntKind.i64.wrap (d + 1) = d + 1 := wrap_i64 (by omega) (by omega)
    have hkn : k = us.length := by omega
    simp [hlt', hw3]
    rw [hkn, List.take_length] at b5 b6
    refine retA_of (hq (d + 1) Lk ⟨b1, by omega, by omega, by omega, fun h => ?_, fun h => ?_⟩)
    · simp only [Rt.nodes] at h ⊢
      obtain ⟨e1, e2⟩ := b5 (by omega)
      exact ⟨by omega, by simp [Rt.depth, e2]⟩
    · simp only [Rt.nodes] at h
      exact b6 (by omega)
theorem term_Size_c (t : Tm) {h : Heap} {Q : AV → Heap → Prop} (hq : Q (.tup [I (szN 100000 t), I (szD 100000 t)]) h) : ACalls prog n_term_Size [tm t] h Q := by
  refine term_Size_call ?_
  unfold term_Size tm
  simp [tmC_e]
  intro id hid
  have hh := Heap.set_same h id (.arr 1 [[I 0]])
  simp [w_store hh, splice]
  refine callS_of ?_
  rw [tm_eta]
  refine term_measure_c t (Heap.set_same h id _) (by omega) (by omega) fun d L' ⟨m1, m2, m3, m4, m5, m6⟩ => ?_
  have hh2 : ∀ n, (h.set id n) id = some n := fun n => Heap.set_same h id n
  have hdrop : ∀ (v : AV) n, Q v h → retA v (h.set id n) Q := fun v n hv => ⟨[v], h, HRef.drop hid, rfl, fun _ _ => .refl, hv⟩
  simp only [Heap.set_set]
  simp [w_loadV_op (hh2 _)]
  by_cases hN : t.nodes ≤ 100000
  · obtain ⟨e1, e2⟩ := m5 (by omega)
    have : ¬ L' < 0 := by omega
    have hw : IntKind.i64.wrap (100000 - L') = 100000 - L' := wrap_i64 (by omega) (by omega)
    simp [this, hw]
    refine hdrop _ _ ?_
    have e3 : 100000 - L' = (szN 100000 t : Int) := by simp [szN, hN]; omega
    have e4 : d = szD 100000 t := by simp [szD, hN]; omega
    rw [e3, e4]; exact hq
  · have := m6 (by omega)
    have : L' < 0 := by omega
    simp [this]
    refine hdrop _ _ ?_
    have e3 : (100001 : Int) = szN 100000 t := by simp [szN, hN]
    have e4 : (0 : Int) = szD 100000 t := by simp [szD, hN]
    rw [e3, e4]; exact hq
theorem vref02_Nodes_c (t : Tm) : ∀ {h : Heap} {Q : AV → Heap → Prop} {m : Nat}, m ≤ 1000000000 → Q (I (min t.nodes (m + 1) : Nat)) h → ACalls prog n_vref02_Nodes [tm t, I m] h Q := by
  refine Rt.ind (P := fun t => ∀ {h : Heap} {Q : AV → Heap → Prop} {m : Nat}, m ≤ 1000000000 → Q (I (min t.nodes (m + 1) : Nat)) h → ACalls prog n_vref02_Nodes [tm t, I m] h Q) (fun a us ih => ?_) t
  intro h Q m hm hq
  refine vref02_Nodes_call ?_
  unfold vref02_Nodes tm
  simp [tmC]
  refine loop_up us.length (fun k σ h' => σ = [I (min (Rt.nodesL (us.take k) + 1) (m + 1) : Nat), I k] ∧ h' = h ∧ k ≤ m + 1) ⟨by simp [Rt.nodesL], rfl, by omega⟩ (fun k σ' h' ⟨e, _⟩ => by rw [e]; rfl) ?_
  rintro k σ' h' K hk ⟨rfl, rfl, hkm⟩ hK
  have hle := Rt.nodesL_take_le us k
  have hnod : (Rt.mk a us).nodes = Rt.nodesL us + 1 := by simp [Rt.nodes]
  by_cases hlt : k < us.length
  · have hlt' : (k : Int) < us.length := by omega
    simp only [g_0, g_1, w_lss, hlt', decide_true, w_brA, if_true, w_leq]
    by_cases hc : Rt.nodesL (us.take k) + 1 ≤ m
    · have emin : min (Rt.nodesL (us.take k) + 1) (m + 1) = Rt.nodesL (us.take k) + 1 := by omega
      have hc2 : (Rt.nodesL (us.take k) : Int) + 1 ≤ m := by omega
      have hl := Rt.length_le (us.take k)
      rw [List.length_take, Nat.min_eq_left hk] at hl
      rw [emin]
      have hw' : IntKind.i64.wrap ((m : Int) - ((Rt.nodesL (us.take k) : Int) + 1)) = ((m - (Rt.nodesL (us.take k) + 1) : Nat) : Int) := by rw [wrap_i64 (by omega) (by omega)]; omega
      simp [hc2, hlt, hw']
      refine callS_of ?_
      first | rw [tm_eta] | rw [show (.agg [tmC us[k]] : AV) = tm us[k] from rfl]
      refine ih us[k] (List.getElem_mem hlt) (by omega) ?_
      have hs := Rt.nodesL_take_succ hlt
      have hn := Rt.nodes_pos us[k]
      have e1 : IntKind.i64.wrap ((Rt.nodesL (us.take k) : Int) + 1 + (min us[k].nodes (m - (Rt.nodesL (us.take k) + 1) + 1) : Nat)) = ((min (Rt.nodesL (us.take (k + 1)) + 1) (m + 1) : Nat) : Int) := by
        rw [wrap_i64 (by omega) (by omega), hs]; omega
      have e2 := wrap_k (k := k) (by omega)
      simp only [w_add, e1, e2]
      exact hK hlt _ _ ⟨rfl, rfl, by omega⟩
    · have hc' : ¬ ((min (Rt.nodesL (us.take k) + 1) (m + 1) : Nat) : Int) ≤ m := by omega
      simp only [hc', decide_false, Bool.false_eq_true, if_false]
      refine retA_of ?_
      have : min (Rt.nodesL (us.take k) + 1) (m + 1) = min (Rt.mk a us).nodes (m + 1) := by omega
      rw [this]; exact hq
  · have hlt' : ¬ ((k : Int) < us.length) := by omega
    have hkn : k = us.length := by omega
    simp only [g_0, g_1, w_lss, hlt', decide_false, w_brA, Bool.false_eq_true, if_false]
    refine retA_of ?_
    rw [hkn, List.take_length, ← hnod]; exact hq
theorem vref02_Depth_c (t : Tm) : ∀ {h : Heap} {Q : AV → Heap → Prop}, t.nodes ≤ 1000000000 → Q (I t.depth) h → ACalls prog n_vref02_Depth [tm t] h Q := by
  refine Rt.ind (P := fun t => ∀ {h : Heap} {Q : AV → Heap → Prop}, t.nodes ≤ 1000000000 → Q (I t.depth) h → ACalls prog n_vref02_Depth [tm t] h Q) (fun a us ih => ?_) t
  intro h Q hm hq
  refine vref02_Depth_call ?_
  unfold vref02_Depth tm
  simp [tmC]
  simp only [Rt.nodes] at hm
  have hlen := Rt.length_le us
  have hdl := Rt.depthL_le us fun t _ => Rt.depth_le t
  refine loop_up us.length (fun k σ h' => σ = [I (Rt.depthL (us.take k)), I k] ∧ h' = h) ⟨by simp [Rt.depthL], rfl⟩ (fun k σ' h' ⟨e, _⟩ => by rw [e]; rfl) ?_
  rintro k σ' h' K hk ⟨rfl, rfl⟩ hK
  by_cases hlt : k < us.length
  · have hlt' : (k : Int) < us.length := by omega
    simp [hlt', hlt]
    refine callS_of ?_
    first | rw [tm_eta] | rw [show (.agg [tmC us[k]] : AV) = tm us[k] from rfl]
    have hnk : us[k].nodes ≤ Rt.nodesL us := by
      have h1 := Rt.nodesL_take_succ hlt
      have h2 := Rt.nodesL_take_le us (k + 1)
      omega
    refine ih us[k] (List.getElem_mem hlt) (by omega) ?_
    have e2 := wrap_k (k := k) (by omega)
    simp only [w_max, e2]
    refine hK hlt _ _ ⟨?_, rfl⟩
    rw [Rt.depthL_take_succ hlt]
    congr 3
    split <;> omega
  · have hlt' : ¬ ((k : Int) < us.length) := by omega
    have hkn : k = us.length := by omega
    subst hkn
    have hw : IntKind.i64.wrap ((Rt.depthL us : Int) + 1) = Rt.depthL us + 1 := wrap_i64 (by omega) (by omega)
    simp [hw]
    refine retA_of ?_
    simpa [Rt.depth] using hq
theorem sorts_Size_c (t : Srt) {h : Heap} {Q : AV → Heap → Prop} (hq : Q (.tup [I (szN 60 t), I (szD 60 t)]) h) : ACalls prog n_sorts_Size [sr t] h Q := by
  refine sorts_Size_call ?_
  unfold sorts_Size sr
  simp [srC_e]
  intro id hid
  have hh := Heap.set_same h id (.arr 1 [[I 0]])
  simp [w_store hh, splice]
  refine callS_of ?_
  rw [sr_eta]
  refine sorts_measure_c t (Heap.set_same h id _) (by omega) (by omega) fun d L' ⟨m1, m2, m3, m4, m5, m6⟩ => ?_
  have hh2 : ∀ n, (h.set id n) id = some n := fun n => Heap.set_same h id n
  have hdrop : ∀ (v : AV) n, Q v h → retA v (h.set id n) Q := fun v n hv => ⟨[v], h, HRef.drop hid, rfl, fun _ _ => .refl, hv⟩
  simp only [Heap.set_set]
  simp [w_loadV_op (hh2 _)]
  by_cases hN : t.nodes ≤ 60
  · obtain ⟨e1, e2⟩ := m5 (by omega)
    have : ¬ L' < 0 := by omega
    have hw : IntKind.i64.wrap (60 - L') = 60 - L' := wrap_i64 (by omega) (by omega)
    simp [this, hw]
    refine hdrop _ _ ?_
    have e3 : 60 - L' = (szN 60 t : Int) := by simp [szN, hN]; omega
    have e4 : d = szD 60 t := by simp [szD, hN]; omega
    rw [e3, e4]; exact hq
  · have := m6 (by omega)
    have : L' < 0 := by omega
    simp [this]
    refine hdrop _ _ ?_
    have e3 : (61 : Int) = szN 60 t := by simp [szN, hN]
    have e4 : (0 : Int) = szD 60 t := by simp [szD, hN]
    rw [e3, e4]; exact hq
theorem vref01_Nodes_c (t : Srt) : ∀ {h : Heap} {Q : AV → Heap → Prop} {m : Nat}, m ≤ 1000000000 → Q (I (min t.nodes (m + 1) : Nat)) h → ACalls prog n_vref01_Nodes [sr t, I m] h Q := by
  refine Rt.ind (P := fun t => ∀ {h : Heap} {Q : AV → Heap → Prop} {m : Nat}, m ≤ 1000000000 → Q (I (min t.nodes (m + 1) : Nat)) h → ACalls prog n_vref01_Nodes [sr t, I m] h Q) (fun a us ih => ?_) t
  intro h Q m hm hq
  refine vref01_Nodes_call ?_
  unfold vref01_Nodes sr
  simp [srC]
  refine loop_up us.length (fun k σ h' => σ = [I (min (Rt.nodesL (us.take k) + 1) (m + 1) : Nat), I k] ∧ h' = h ∧ k ≤ m + 1) ⟨by simp [Rt.nodesL], rfl, by omega⟩ (fun k σ' h' ⟨e, _⟩ => by rw [e]; rfl) ?_
  rintro k σ' h' K hk ⟨rfl, rfl, hkm⟩ hK
  have hle := Rt.nodesL_take_le us k
  have hnod : (Rt.mk a us).nodes = Rt.nodesL us + 1 := by simp [Rt.nodes]
  by_cases hlt : k < us.length
  · have hlt' : (k : Int) < us.length := by omega
    simp only [g_0, g_1, w_lss, hlt', decide_true, w_brA, if_true, w_leq]
    by_cases hc : Rt.nodesL (us.take k) + 1 ≤ m
    · have emin : min (Rt.nodesL (us.take k) + 1) (m + 1) = Rt.nodesL (us.take k) + 1 := by omega
      have hc2 : (Rt.nodesL (us.take k) : Int) + 1 ≤ m := by omega
      have hl := Rt.length_le (us.take k)
      rw [List.length_take, Nat.min_eq_left hk] at hl
      rw [emin]
      have hw' : IntKind.i64.wrap ((m : Int) - ((Rt.nodesL (us.take k) : Int) + 1)) = ((m - (Rt.nodesL (us.take k) + 1) : Nat) : Int) := by rw [wrap_i64 (by omega) (by omega)]; omega
      simp [hc2, hlt, hw']
      refine callS_of ?_
      first | rw [sr_eta] | rw [show (.agg [srC us[k]] : AV) = sr us[k] from rfl]
      refine ih us[k] (List.getElem_mem hlt) (by omega) ?_
      have hs := Rt.nodesL_take_succ hlt
      have hn := Rt.nodes_pos us[k]
      have e1 : IntKind.i64.wrap ((Rt.nodesL (us.take k) : Int) + 1 + (min us[k].nodes (m - (Rt.nodesL (us.take k) + 1) + 1) : Nat)) = ((min (Rt.nodesL (us.take (k + 1)) + 1) (m + 1) : Nat) : Int) := by
        rw [wrap_i64 (by omega) (by omega), hs]; omega
      have e2 := wrap_k (k := k) (by omega)
      simp only [w_add, e1, e2]
      exact hK hlt _ _ ⟨rfl, rfl, by omega⟩
    · have hc' : ¬ ((min (Rt.nodesL (us.take k) + 1) (m + 1) : Nat) : Int) ≤ m := by omega
      simp only [hc', decide_false, Bool.false_eq_true, if_false]
      refine retA_of ?_
      have : min (Rt.nodesL (us.take k) + 1) (m + 1) = min (Rt.mk a us).nodes (m + 1) := by omega
      rw [this]; exact hq
  · have hlt' : ¬ ((k : Int) < us.length) := by omega
    have hkn : k = us.length := by omega
    simp only [g_0, g_1, w_lss, hlt', decide_false, w_brA, Bool.false_eq_true, if_false]
    refine retA_of ?_
    rw [hkn, List.take_length, ← hnod]; exact hq
theorem vref01_depth_c (t : Srt) : ∀ {h : Heap} {Q : AV → Heap → Prop}, t.nodes ≤ 1000000000 → Q (I t.depth) h → ACalls prog n_vref01_depth [sr t] h Q := by
  refine Rt.ind (P := fun t => ∀ {h : Heap} {Q : AV → Heap → Prop}, t.nodes ≤ 1000000000 → Q (I t.depth) h → ACalls prog n_vref01_depth [sr t] h Q) (fun a us ih => ?_) t
  intro h Q hm hq
  refine vref01_depth_call ?_
  unfold vref01_depth sr
  simp [srC]
  simp only [Rt.nodes] at hm
  have hlen := Rt.length_le us
  have hdl := Rt.depthL_le us fun t _ => Rt.depth_le t
  refine loop_up us.length (fun k σ h' => σ = [I (Rt.depthL (us.take k)), I k] ∧ h' = h) ⟨by simp [Rt.depthL], rfl⟩ (fun k σ' h' ⟨e, _⟩ => by rw [e]; rfl) ?_
  rintro k σ' h' K hk ⟨rfl, rfl⟩ hK
  by_cases hlt : k < us.length
  · have hlt' : (k : Int) < us.length := by omega
    simp [hlt', hlt]
    refine callS_of ?_
    first | rw [sr_eta] | rw [show (.agg [srC us[k]] : AV) = sr us[k] from rfl]
    have hnk : us[k].nodes ≤ Rt.nodesL us := by
      have h1 := Rt.nodesL_take_succ hlt
      have h2 := Rt.nodesL_take_le us (k + 1)
      omega
    refine ih us[k] (List.getElem_mem hlt) (by omega) ?_
    have e2 := wrap_k (k := k) (by omega)
    simp only [w_max, e2]
    refine hK hlt _ _ ⟨?_, rfl⟩
    rw [Rt.depthL_take_succ hlt]
    congr 3
    split <;> omega
  · have hlt' : ¬ ((k : Int) < us.length) := by omega
    have hkn : k = us.length := by omega
    subst hkn
    have hw : IntKind.i64.wrap ((Rt.depthL us : Int) + 1) = Rt.depthL us + 1 := wrap_i64 (by omega) (by omega)
    simp [hw]
    refine retA_of ?_
    simpa [Rt.depth] using hq
end Am
set_option linter.unusedVariables false
set_option linter.unusedSimpArgs false
namespace Am
open Go Go.Proofs.Tryz
mutual
def few : Srt → Bool
  | .mk _ us => fewL us && decide (us.length ≤ 8)
def fewL : List Srt → Bool
  | [] => true
  | s :: ss => few s && fewL ss
end
def okS (s : Srt) : Bool := decide (s.nodes ≤ 60) && decide (s.depth ≤ 30) && few s
theorem fewL_drop {us : List Srt} {k : Nat} (hk : k < us.length) : fewL (us.drop k) = (few us[k] && fewL (us.drop (k + 1))) := by
  rw [List.drop_eq_getElem_cons hk]; simp [fewL]
theorem kid_nodes {α : Type} {us : List (Rt α)} {k : Nat} (hk : k < us.length) : us[k].nodes ≤ Rt.nodesL us := by
  have h1 := Rt.nodesL_take_succ hk
  have h2 := Rt.nodesL_take_le us (k + 1)
  omega
theorem vref01_few_c (t : Srt) : ∀ {h : Heap} {Q : AV → Heap → Prop}, t.nodes ≤ 1000000000 → Q (B (few t)) h → ACalls prog n_vref01_few [sr t] h Q := by
  refine Rt.ind (P := fun t => ∀ {h : Heap} {Q : AV → Heap → Prop}, t.nodes ≤ 1000000000 → Q (B (few t)) h → ACalls prog n_vref01_few [sr t] h Q) (fun a us ih => ?_) t
  intro h Q hm hq
  refine vref01_few_call ?_
  unfold vref01_few sr
  simp only [Rt.nodes] at hm
  have hlen := Rt.length_le us
  simp [srC]
  refine loop_ix us.length (fun k => few (.mk a us) = (fewL (us.drop k) && decide (us.length ≤ 8))) (by simp [few]) fun k hk hi K hK => ?_
  by_cases hlt : k < us.length
  · have hlt' : (k : Int) < us.length := by omega
    have hn := kid_nodes hlt
    simp [hlt', hlt]
    refine callS_of ?_
    rw [sr_eta]
    refine ih us[k] (List.getElem_mem hlt) (by omega) ?_
    rw [fewL_drop hlt] at hi
    cases hf : few us[k] with
    | false =>
      rw [hf] at hi
      simp
      refine retA_of ?_
      rw [hi] at hq; exact hq
    | true =>
      rw [hf] at hi
      simp [wrap_k (k := k) (by omega)]
      exact hK hlt (by rw [hi]; simp)
  · have hkn : k = us.length := by omega
    subst hkn
    simp
    refine retA_of ?_
    rw [hi, List.drop_length] at hq
    have e : decide ((us.length : Int) ≤ 8) = decide (us.length ≤ 8) := by rw [decide_eq_decide]; omega
    rw [e]; exact hq
theorem sorts_Check_1_c (t : Srt) {h : Heap} {Q : AV → Heap → Prop} (hq : Q (B (decide (t.kids.length ≤ 8))) h) : ACalls prog n_sorts_Check_1 [sr t] h Q := by
  refine sorts_Check_1_call ?_
  unfold sorts_Check_1 sr
  rw [srC_eq]
  simp
  refine retA_of ?_
  have : decide ((t.kids.length : Int) ≤ 8) = decide (t.kids.length ≤ 8) := by rw [decide_eq_decide]; omega
  rw [this]; exact hq
theorem sorts_all_c (t : Srt) : ∀ {h : Heap} {Q : AV → Heap → Prop}, t.nodes ≤ 1000000000 → Q (B (few t)) h → ACalls prog n_sorts_all [sr t, .fn 152 []] h Q := by
  refine Rt.ind (P := fun t => ∀ {h : Heap} {Q : AV → Heap → Prop}, t.nodes ≤ 1000000000 → Q (B (few t)) h → ACalls prog n_sorts_all [sr t, .fn 152 []] h Q) (fun a us ih => ?_) t
  intro h Q hm hq
  refine sorts_all_call ?_
  unfold sorts_all sr
  simp only [Rt.nodes] at hm
  have hlen := Rt.length_le us
  simp [srC]
  refine loop_ix us.length (fun k => few (.mk a us) = (fewL (us.drop k) && decide (us.length ≤ 8))) (by simp [few]) fun k hk hi K hK => ?_
  by_cases hlt : k < us.length
  · have hlt' : (k : Int) < us.length := by omega
    have hn := kid_nodes hlt
    simp [hlt', hlt]
    refine callS_of ?_
    rw [sr_eta]
    refine ih us[k] (List.getElem_mem hlt) (by omega) ?_
    rw [fewL_drop hlt] at hi
    cases hf : few us[k] with
    | false =>
      rw [hf] at hi
      simp
      refine retA_of ?_
      rw [hi] at hq; exact hq
    | true =>
      rw [hf] at hi
      simp [wrap_k (k := k) (by omega)]
      exact hK hlt (by rw [hi]; simp)
  · have hkn : k = us.length := by omega
    subst hkn
    simp
    refine callS_of ?_
    have e : (.agg [.rs 1 (srCs us)] : AV) = sr (.mk a us) := rfl
    rw [e]
    refine sorts_Check_1_c _ (retA_of ?_)
    rw [hi, List.drop_length] at hq
    exact hq
theorem sorts_Check_c (t : Srt) {h : Heap} {Q : AV → Heap → Prop} (hq : Q (I (if okS t then 0 else 6)) h) : ACalls prog n_sorts_Check [sr t] h Q := by
  refine sorts_Check_call ?_
  unfold sorts_Check sr
  simp
  refine callS_of ?_
  rw [sr_eta]
  refine sorts_Size_c t ?_
  simp [szN, szD]
  unfold okS at hq
  by_cases h1 : t.nodes ≤ 60
  · have h1' : ¬ (60 : Int) < t.nodes := by omega
    simp [h1, h1']
    by_cases h2 : t.depth ≤ 30
    · have h2' : ¬ (30 : Int) < t.depth := by omega
      simp [h2']
      refine callS_of (sorts_all_c t (by omega) ?_)
      cases hf : few t <;> (simp; refine retA_of ?_; simpa [h1, h2, hf] using hq)
    · have h2' : (30 : Int) < t.depth := by omega
      simp [h2']
      refine retA_of ?_
      simpa [h1, h2] using hq
  · simp [h1]
    refine retA_of ?_
    simpa [h1] using hq
theorem vref01_Is_c (t : Srt) {h : Heap} {Q : AV → Heap → Prop} (hq : Q (B (okS t)) h) : ACalls prog n_vref01_Is [sr t] h Q := by
  refine vref01_Is_call ?_
  unfold vref01_Is sr
  simp
  refine callS_of ?_
  rw [sr_eta]
  refine vref01_Nodes_c t (m := 60) (by omega) ?_
  unfold okS at hq
  by_cases h1 : t.nodes ≤ 60
  · have h1' : ((min t.nodes (60 + 1) : Nat) : Int) ≤ 60 := by omega
    simp only [w_leq, h1', decide_true, w_brA, if_true]
    refine callS_of ?_
    refine vref01_depth_c t (by omega) ?_
    by_cases h2 : t.depth ≤ 30
    · have h2' : (t.depth : Int) ≤ 30 := by omega
      simp [h2']
      refine callS_of (vref01_few_c t (by omega) (retA_of ?_))
      simpa [h1, h2] using hq
    · have h2' : ¬ (t.depth : Int) ≤ 30 := by omega
      simp [h2']
      refine retA_of ?_
      simpa [h1, h2] using hq
  · have h1' : ¬ ((min t.nodes (60 + 1) : Nat) : Int) ≤ 60 := by omega
    simp only [w_leq, h1', decide_false, w_brA, Bool.false_eq_true, if_false]
    refine retA_of ?_
    simpa [h1] using hq
def okc (c : Nat) : Bool := (decide (97 ≤ c) && decide (c ≤ 122)) || (decide (48 ≤ c) && decide (c ≤ 57)) || decide (c = 95)
def nameB (s : ByteArray) : Bool := decide (1 ≤ s.size) && decide (s.size ≤ 24) && decide (97 ≤ (s.data.toList.getD 0 0).toNat) && decide ((s.data.toList.getD 0 0).toNat ≤ 122) && s.data.toList.all fun c => okc c.toNat
theorem sz_data (s : ByteArray) : s.data.toList.length = s.size := by rw [Array.length_toList]; rfl
theorem name_step {s : ByteArray} {k : Nat} (hk : k < s.data.toList.length) : (s.data.toList.drop k).all (fun c => okc c.toNat) = (okc (s.data.toList.getD k 0).toNat && (s.data.toList.drop (k + 1)).all fun c => okc c.toNat) := by
  rw [List.drop_eq_getElem_cons hk, List.all_cons]
  simp only [List.getD_eq_getElem?_getD, List.getElem?_eq_getElem hk, Option.getD_some]
set_option maxRecDepth 20000 in
theorem term_Name_c (s : ByteArray) {h : Heap} {Q : AV → Heap → Prop} (hq : Q (B (nameB s)) h) : ACalls prog n_term_Name [S s] h Q := by
  refine term_Name_call ?_
  unfold term_Name
  have hz := sz_data s
  unfold nameB at hq
  simp only [w_lenS, w_eql, w_brA, decide_eq_true_eq, w_gtr, w_str]
  split
  · rename_i h0; exact retA_of (by rw [show decide (1 ≤ s.size) = false from decide_eq_false (by omega)] at hq; exact hq)
  split
  · rename_i h0; exact retA_of (by rw [show decide (s.size ≤ 24) = false from decide_eq_false (by omega), Bool.and_false] at hq; exact hq)
  refine ⟨by omega, by omega, ?_⟩
  try simp only [w_lss, w_brA, decide_eq_true_eq, Int.toNat_zero]
  split
  · rename_i h0; exact retA_of (by rw [show decide (97 ≤ (s.data.toList.getD 0 0).toNat) = false from decide_eq_false (by omega), Bool.and_false] at hq; exact hq)
  refine ⟨by omega, by omega, ?_⟩
  try simp only [w_gtr, w_brA, decide_eq_true_eq, Int.toNat_zero]
  split
  · rename_i h0; exact retA_of (by rw [show decide ((s.data.toList.getD 0 0).toNat ≤ 122) = false from decide_eq_false (by omega), Bool.and_false] at hq; exact hq)
  rename_i c1 c2 c3 c4
  have hq' : Q (B (s.data.toList.all fun c => okc c.toNat)) h := by
    rw [show decide (1 ≤ s.size) = true from decide_eq_true (by omega), show decide (s.size ≤ 24) = true from decide_eq_true (by omega), show decide (97 ≤ (s.data.toList.getD 0 0).toNat) = true from decide_eq_true (by omega), show decide ((s.data.toList.getD 0 0).toNat ≤ 122) = true from decide_eq_true (by omega)] at hq
    exact hq
  refine loop_ix s.size (fun k => (s.data.toList.all fun c => okc c.toNat) = (s.data.toList.drop k).all fun c => okc c.toNat) (by simp) fun k hk hi K hK => ?_
  by_cases hlt : k < s.size
  · have hlt' : (k : Int) < s.size := by omega
    rw [name_step (by omega)] at hi
    have hK' : okc (s.data.toList.getD k 0).toNat = true → K [I ((k + 1 : Nat) : Int)] h := fun e => hK hlt (by rw [hi, e]; simp)
    have hR : okc (s.data.toList.getD k 0).toNat = false → retA (B false) h Q := fun e => retA_of (by rw [hi, e] at hq'; simpa using hq')
    have hk0 : (0 : Int) ≤ k := by omega
    simp only [g_0, w_lss, hlt', decide_true, w_brA, if_true, w_str, wrap_k (k := k) (by omega), w_add, w_gtr, w_neq, decide_eq_true_eq, Bool.not_eq_true', decide_eq_false_iff_not, Int.toNat_natCast, hk0, true_and]
    unfold okc at hK' hR
    generalize (s.data.toList.getD k 0).toNat = c at *
    repeat' split
    all_goals first
      | exact hK' (by simp; omega)
      | exact hR (by simp; omega)
  · have hkn : k = s.size := by omega
    subst hkn
    simp
    exact retA_of (by rw [hi, ← hz, List.drop_length] at hq'; simpa using hq')
theorem vref02_Name_c (s : ByteArray) {h : Heap} {Q : AV → Heap → Prop} (hq : Q (B (nameB s)) h) : ACalls prog n_vref02_Name [S s] h Q := by
  refine vref02_Name_call ?_
  unfold vref02_Name
  have hz := sz_data s
  unfold nameB at hq
  simp only [w_lenS, w_lss, w_brA, decide_eq_true_eq, w_gtr, w_str]
  split
  · rename_i h0; exact retA_of (by rw [show decide (1 ≤ s.size) = false from decide_eq_false (by omega)] at hq; exact hq)
  split
  · rename_i h0; exact retA_of (by rw [show decide (s.size ≤ 24) = false from decide_eq_false (by omega), Bool.and_false] at hq; exact hq)
  refine ⟨by omega, by omega, ?_⟩
  try simp only [w_lss, w_brA, decide_eq_true_eq, Int.toNat_zero]
  split
  · rename_i h0; exact retA_of (by rw [show decide (97 ≤ (s.data.toList.getD 0 0).toNat) = false from decide_eq_false (by omega), Bool.and_false] at hq; exact hq)
  refine ⟨by omega, by omega, ?_⟩
  try simp only [w_gtr, w_brA, decide_eq_true_eq, Int.toNat_zero]
  split
  · rename_i h0; exact retA_of (by rw [show decide ((s.data.toList.getD 0 0).toNat ≤ 122) = false from decide_eq_false (by omega), Bool.and_false] at hq; exact hq)
  rename_i c1 c2 c3 c4
  have hq' : Q (B (s.data.toList.all fun c => okc c.toNat)) h := by
    rw [show decide (1 ≤ s.size) = true from decide_eq_true (by omega), show decide (s.size ≤ 24) = true from decide_eq_true (by omega), show decide (97 ≤ (s.data.toList.getD 0 0).toNat) = true from decide_eq_true (by omega), show decide ((s.data.toList.getD 0 0).toNat ≤ 122) = true from decide_eq_true (by omega)] at hq
    exact hq
  refine loop_ix s.size (fun k => (s.data.toList.all fun c => okc c.toNat) = (s.data.toList.drop k).all fun c => okc c.toNat) (by simp) fun k hk hi K hK => ?_
  by_cases hlt : k < s.size
  · have hlt' : (k : Int) < s.size := by omega
    rw [name_step (by omega)] at hi
    have hK' : okc (s.data.toList.getD k 0).toNat = true → K [I ((k + 1 : Nat) : Int)] h := fun e => hK hlt (by rw [hi, e]; simp)
    have hR : okc (s.data.toList.getD k 0).toNat = false → retA (B false) h Q := fun e => retA_of (by rw [hi, e] at hq'; simpa using hq')
    have hk0 : (0 : Int) ≤ k := by omega
    simp only [g_0, w_lss, hlt', decide_true, w_brA, if_true, w_str, wrap_k (k := k) (by omega), w_add, w_gtr, w_neq, decide_eq_true_eq, Bool.not_eq_true', decide_eq_false_iff_not, Int.toNat_natCast, w_lenS, hk0, true_and]
    unfold okc at hK' hR
    generalize (s.data.toList.getD k 0).toNat = c at *
    repeat' split
    all_goals first
      | exact hK' (by simp; omega)
      | exact hR (by simp; omega)
  · have hkn : k = s.size := by omega
    subst hkn
    simp
    exact retA_of (by rw [hi, ← hz, List.drop_length] at hq'; simpa using hq')
end Am
set_option linter.unusedVariables false
set_option linter.unusedSimpArgs false
namespace Am
open Go Go.Proofs.Tryz
abbrev Sy := ByteArray × Int
def syCs (l : List Sy) : List (List AV) := l.map fun s => [S s.1, I s.2]
@[simp] theorem syCs_len (l : List Sy) : (syCs l).length = l.length := by simp [syCs]
@[simp] theorem syCs_gE {l : List Sy} {k : Nat} (hk : k < (syCs l).length) : (syCs l)[k] = [S (l[k]'(by simpa using hk)).1, I (l[k]'(by simpa using hk)).2] := by simp [syCs]
@[simp] theorem syCs_take (l : List Sy) (k : Nat) : (syCs l).take k = syCs (l.take k) := by simp [syCs]
def inN (n : ByteArray) (seen : List ByteArray) : Bool := seen.any fun m => n.toList == m.toList
def symsB : List Sy → List ByteArray → Bool
  | [], _ => true
  | s :: r, seen => nameB s.1 && !inN s.1 seen && decide (0 ≤ s.2) && decide (s.2 ≤ 4) && symsB r (seen ++ [s.1])
def nmE (seen : List ByteArray) : List (AV × AV) := seen.map fun n => (S n, B true)
theorem find_names (n : ByteArray) : ∀ (seen : List ByteArray) (i : Nat), (inN n seen = false → findA [.str] (S n) (nmE seen) i = some none) ∧ (inN n seen = true → ∃ j, findA [.str] (S n) (nmE seen) i = some (some (i + j)) ∧ j < seen.length)
  | [], i => ⟨fun _ => rfl, fun h => by cases h⟩
  | m :: r, i => by
    obtain ⟨h1, h2⟩ := find_names n r (i + 1)
    have e : findA [.str] (S n) (nmE (m :: r)) i = if (n.toList == m.toList) = true then some (some i) else findA [.str] (S n) (nmE r) (i + 1) := by
      show (match some (n.toList == m.toList) with | some true => some (some i) | some false => findA [.str] (S n) (nmE r) (i + 1) | none => none) = _
      cases n.toList == m.toList <;> rfl
    have ea : inN n (m :: r) = ((n.toList == m.toList) || inN n r) := rfl
    rw [e, ea]
    cases hb : n.toList == m.toList
    · simp only [Bool.false_or, Bool.false_eq_true, if_false]
      refine ⟨h1, fun h => ?_⟩
      obtain ⟨j, a, b⟩ := h2 h
      exact ⟨j + 1, by rw [a]; congr 2; omega, by simp; omega⟩
    · simp only [Bool.true_or, if_true]
      exact ⟨fun h => by simp at h, fun _ => ⟨0, rfl, by simp⟩⟩
theorem look_names {h : Heap} {id : Nat} {seen : List ByteArray} (hh : h id = some (.map (nmE seen))) (n : ByteArray) (k : AV → Prop) (hk : k (B (inN n seen))) : lookA [.str] false (B false) (.mp id) (S n) h k := by
  unfold lookA mapA
  simp only [hh]
  obtain ⟨h1, h2⟩ := find_names n seen 0
  cases hi : inN n seen with
  | false => rw [h1 hi]; rw [hi] at hk; exact hk
  | true =>
    obtain ⟨j, a, b⟩ := h2 hi
    rw [a]
    rw [hi] at hk
    have : eval2 (nmE seen) (0 + j) = B true := by simp [eval2, nmE, List.getD_eq_getElem?_getD, b]
    simp only [Bool.false_eq_true, if_false, this]
    exact hk
theorem upd_names {h : Heap} {id : Nat} {seen : List ByteArray} (hh : h id = some (.map (nmE seen))) (n : ByteArray) (hn : inN n seen = false) (k : Heap → Prop) (hk : k (h.set id (.map (nmE (seen ++ [n]))))) : updA [.str] (.mp id) (S n) (B true) h k := by
  unfold updA mapA
  simp only [hh]
  rw [(find_names n seen 0).1 hn]
  have : nmE (seen ++ [n]) = nmE seen ++ [(S n, B true)] := by simp [nmE]
  rw [this] at hk
  exact hk
theorem symsB_step {l : List Sy} {k : Nat} (hk : k < l.length) : symsB (l.drop k) ((l.map (·.1)).take k) = (nameB l[k].1 && !inN l[k].1 ((l.map (·.1)).take k) && decide (0 ≤ l[k].2) && decide (l[k].2 ≤ 4) && symsB (l.drop (k + 1)) ((l.map (·.1)).take (k + 1))) := by
  have e : (l.map (·.1)).take (k + 1) = (l.map (·.1)).take k ++ [l[k].1] := by rw [List.take_succ_eq_append_getElem (by simpa using hk)]; simp
  rw [List.drop_eq_getElem_cons hk, e]
  simp [symsB]
theorem term_Symbols_c (l : List Sy) (hl : l.length ≤ 1000000000) {h : Heap} {Q : AV → Heap → Prop} (hq : Q (B (symsB l [] && decide (l.length ≤ 24))) h) : ACalls prog n_term_Symbols [.rs 2 (syCs l)] h Q := by
  refine term_Symbols_call ?_
  unfold term_Symbols
  intro id hid
  simp only [w_len_rs, syCs_len]
  have hret : ∀ (v : AV) n, Q v h → retA v (h.set id n) Q := fun v n hv => ⟨[v], h, HRef.drop hid, rfl, fun _ _ => .refl, hv⟩
  refine loop_up l.length (fun k σ h' => σ = [I k] ∧ h' = h.set id (.map (nmE ((l.map (·.1)).take k))) ∧ symsB l [] = symsB (l.drop k) ((l.map (·.1)).take k)) ⟨rfl, by simp [nmE], by simp⟩ (fun k σ' h' ⟨e, _⟩ => by rw [e]; rfl) ?_
  rintro k σ' h' K hk ⟨rfl, rfl, hi⟩ hK
  by_cases hlt : k < l.length
  · have hlt' : (k : Int) < l.length := by omega
    have hh := Heap.set_same h id (.map (nmE ((l.map (·.1)).take k)))
    simp [hlt', hlt]
    refine callS_of (term_Name_c _ ?_)
    rw [symsB_step hlt] at hi
    rw [hi] at hq
    cases h1 : nameB l[k].1 with
    | false => simp; exact hret _ _ (by simpa [h1] using hq)
    | true =>
      simp
      refine look_names hh _ _ ?_
      cases h2 : inN l[k].1 ((l.map (·.1)).take k) with
      | true => simp; exact hret _ _ (by simpa [h1, h2] using hq)
      | false =>
        simp
        by_cases h3 : 0 ≤ l[k].2
        · have h3' : ¬ l[k].2 < 0 := by omega
          simp [h3']
          by_cases h4 : l[k].2 ≤ 4
          · have h4' : ¬ 4 < l[k].2 := by omega
            simp [h4']
            refine upd_names hh _ h2 _ ?_
            simp [wrap_k (k := k) (by omega)]
            refine hK hlt _ _ ⟨rfl, ?_, ?_⟩
            · rw [List.take_succ_eq_append_getElem (by simpa using hlt)]; simp
            · rw [hi]; simp [h1, h2, h3, h4]
          · have h4' : 4 < l[k].2 := by omega
            simp [h4']; exact hret _ _ (by simpa [h1, h2, h3, h4] using hq)
        · have h3' : l[k].2 < 0 := by omega
          simp [h3']; exact hret _ _ (by simpa [h1, h2, h3] using hq)
  · have hkn : k = l.length := by omega
    subst hkn
    simp
    refine hret _ _ ?_
    rw [hi] at hq
    have e : decide ((l.length : Int) ≤ 24) = decide (l.length ≤ 24) := by rw [decide_eq_decide]; omega
    rw [e]
    simpa [symsB] using hq
theorem inN_take {n : ByteArray} {l : List ByteArray} {k : Nat} (hk : k < l.length) : inN n (l.drop k) = ((n.toList == l[k].toList) || inN n (l.drop (k + 1))) := by
  rw [List.drop_eq_getElem_cons hk]; rfl
theorem vref02_Symbols_c (l : List Sy) {h : Heap} {Q : AV → Heap → Prop} (hq : Q (B (symsB l [] && decide (l.length ≤ 24))) h) : ACalls prog n_vref02_Symbols [.rs 2 (syCs l)] h Q := by
  refine vref02_Symbols_call ?_
  unfold vref02_Symbols
  simp only [w_len_rs, syCs_len, w_gtr, w_brA, decide_eq_true_eq]
  split
  · refine retA_of ?_
    rw [show decide (l.length ≤ 24) = false from decide_eq_false (by omega), Bool.and_false] at hq
    exact hq
  rename_i hl
  rw [show decide (l.length ≤ 24) = true from decide_eq_true (by omega), Bool.and_true] at hq
  refine loop_ix l.length (fun k => symsB l [] = symsB (l.drop k) ((l.map (·.1)).take k)) (by simp) fun k hk hi K hK => ?_
  by_cases hlt : k < l.length
  · have hlt' : (k : Int) < l.length := by omega
    simp [hlt', hlt]
    refine callS_of (vref02_Name_c _ ?_)
    rw [symsB_step hlt] at hi
    rw [hi] at hq
    cases h1 : nameB l[k].1 with
    | false => simp; exact retA_of (by simpa [h1] using hq)
    | true =>
      simp
      by_cases h3 : 0 ≤ l[k].2
      · have h3' : ¬ l[k].2 < 0 := by omega
        simp [h3']
        by_cases h4 : l[k].2 ≤ 4
        · have h4' : ¬ 4 < l[k].2 := by omega
          have hkl : k ≤ l.length := by omega
          have hmin : min (k : Int) (l.length : Int) = k := by omega
          have hkI : (k : Int) ≤ l.length := by omega
          have hmN : min k l.length = k := Nat.min_eq_left hkl
          simp [h4', hkl, hmin, hkI, hmN]
          refine loop_ix k (fun j => inN l[k].1 ((l.map (·.1)).take k) = inN l[k].1 (((l.map (·.1)).take k).drop j)) (by simp) fun j hj hij K2 hK2 => ?_
          by_cases hjk : j < k
          · have hjk' : (j : Int) < k := by omega
            have hjl : j < l.length := by omega
            have hjl' : (j : Int) < l.length := by omega
            simp [hjk', hjk, hjl, hjl', hmN]
            rw [inN_take (by simp; omega)] at hij
            have e0 : ((l.map (·.1)).take k)[j]'(by simp; omega) = l[j].1 := by simp
            rw [e0] at hij
            cases he : l[k].1.toList == l[j].1.toList with
            | true =>
              have he' : l[k].1.toList = l[j].1.toList := eq_of_beq he
              simp [he']
              rw [he] at hij
              exact retA_of (by simpa [h1, hij] using hq)
            | false =>
              have he' : ¬ l[k].1.toList = l[j].1.toList := by simpa using he
              simp [he', wrap_k (k := j) (by omega)]
              exact hK2 hjk (by rw [hij, he]; simp)
          · have : j = k := by omega
            subst this
            have hn : inN l[j].1 ((l.map (·.1)).take j) = false := by
              rw [hij, List.drop_eq_nil_of_le (by simp; omega)]; rfl
            simp [wrap_k (k := j) (by omega)]
            exact hK hlt (by rw [hi, h1, hn]; simp [h3, h4])
        · have h4' : 4 < l[k].2 := by omega
          simp [h4']; exact retA_of (by simpa [h1, h3, h4] using hq)
      · have h3' : l[k].2 < 0 := by omega
        simp [h3']; exact retA_of (by simpa [h1, h3] using hq)
  · have hkn : k = l.length := by omega
    subst hkn
    simp
    refine retA_of ?_
    rw [hi] at hq
    simpa [symsB] using hq
structure Pl where
  syms : List Sy
  funs : List Srt
  params : List Srt
def pl (p : Pl) : AV := .agg [.rs 2 (syCs p.syms), .rs 1 (srCs p.funs), .rs 1 (srCs p.params)]
theorem pl_eta (p : Pl) : (.agg [.rs 2 (syCs p.syms), .rs 1 (srCs p.funs), .rs 1 (srCs p.params)] : AV) = pl p := rfl
end Am
set_option linter.unusedVariables false
set_option linter.unusedSimpArgs false
namespace Am
open Go Go.Proofs.Tryz
theorem tmCs_sz (l : List Tm) : ∀ i, i < (tmCs l).length → ((tmCs l).getD i []).length = 3 := fun i hi => by
  rw [tmCs_get (by simpa using hi)]; simp
theorem srCs_sz (l : List Srt) : ∀ i, i < (srCs l).length → ((srCs l).getD i []).length = 1 := fun i hi => by
  rw [srCs_get (by simpa using hi)]; simp
theorem tmCs_snoc {l : List Tm} {k : Nat} (hk : k < l.length) : tmCs (l.take (k + 1)) = tmCs (l.take k) ++ [tmC l[k]] := by
  rw [List.take_succ_eq_append_getElem hk, tmCs_eq, tmCs_eq, List.map_append]; rfl
theorem srCs_snoc {l : List Srt} {k : Nat} (hk : k < l.length) : srCs (l.take (k + 1)) = srCs (l.take k) ++ [[srC l[k]]] := by
  rw [List.take_succ_eq_append_getElem hk, srCs_eq, srCs_eq, List.map_append]; rfl
theorem szN_gt {α : Type} (c : Nat) (t : Rt α) : decide ((c : Int) < szN c t) = decide (c < t.nodes) := by
  unfold szN; rw [decide_eq_decide]; split <;> omega
theorem term_large_c (t : Tm) {h : Heap} {Q : AV → Heap → Prop} (hq : Q (B (decide (100000 < t.nodes))) h) : ACalls prog n_term_large [tm t] h Q := by
  refine term_large_call ?_
  unfold term_large tm
  simp
  refine callS_of ?_
  rw [tm_eta]
  refine term_Size_c t ?_
  have e := szN_gt 100000 t
  simp at e
  simp [e]
  exact retA_of (by simpa using hq)
namespace Rt
variable {α : Type} [DecidableEq α]
mutual
def eqR : Rt α → Rt α → Bool
  | .mk a us, t => decide (a = t.lab) && decide (us.length = t.kids.length) && eqRL us t.kids
def eqRL : List (Rt α) → List (Rt α) → Bool
  | [], _ => true
  | u :: us, l => (match l with | [] => true | v :: vs => eqR u v && eqRL us vs)
end
theorem eqRL_iff {us : List (Rt α)} (ih : ∀ t, t ∈ us → ∀ u : Rt α, eqR t u = true ↔ t = u) : ∀ vs : List (Rt α), us.length = vs.length → (eqRL us vs = true ↔ us = vs) := by
  induction us with
  | nil => intro vs hl; cases vs with
    | nil => simp [eqRL]
    | cons _ _ => simp at hl
  | cons t us ih2 => intro vs hl; cases vs with
    | nil => simp at hl
    | cons v vs =>
      have h1 := ih t (by simp) v
      have h2 := ih2 (fun t ht => ih t (by simp [ht])) vs (by simpa using hl)
      simp [eqRL, h1, h2]
theorem eqR_iff (t : Rt α) : ∀ u, eqR t u = true ↔ t = u := by
  refine ind (P := fun t => ∀ u, eqR t u = true ↔ t = u) (fun a us ih u => ?_) t
  obtain ⟨b, vs⟩ := u
  simp only [eqR, lab, kids, Bool.and_eq_true]
  constructor
  · rintro ⟨⟨h1, h2⟩, h3⟩
    have h1 := of_decide_eq_true h1
    have h2e : us.length = vs.length := of_decide_eq_true h2
    subst h1
    rw [(eqRL_iff ih vs h2e).1 h3]
  · rintro h; cases h; exact ⟨⟨decide_eq_true rfl, decide_eq_true rfl⟩, (eqRL_iff ih us rfl).2 rfl⟩
theorem eqR_refl (t : Rt α) : eqR t t = true := (eqR_iff t t).2 rfl
theorem eqRL_drop {us vs : List (Rt α)} {k : Nat} (hk : k < us.length) (hl : k < vs.length) : eqRL (us.drop k) (vs.drop k) = (eqR us[k] vs[k] && eqRL (us.drop (k + 1)) (vs.drop (k + 1))) := by
  rw [List.drop_eq_getElem_cons hk, List.drop_eq_getElem_cons hl]; simp [eqRL]
end Rt
open Rt (eqR eqRL eqR_iff)
theorem term_same_c (a : Tm) : ∀ (b : Tm) {h : Heap} {Q : AV → Heap → Prop}, a.nodes ≤ 1000000000 → Q (B (eqR a b)) h → ACalls prog n_term_same [tm a, tm b] h Q := by
  refine Rt.ind (P := fun a => ∀ (b : Tm) {h : Heap} {Q : AV → Heap → Prop}, a.nodes ≤ 1000000000 → Q (B (eqR a b)) h → ACalls prog n_term_same [tm a, tm b] h Q) (fun a us ih => ?_) a
  intro b h Q hm hq
  obtain ⟨b, vs⟩ := b
  refine term_same_call ?_
  unfold term_same tm
  simp only [Rt.nodes] at hm
  have hlen := Rt.length_le us
  simp [tmC]
  by_cases h1 : a.1 = b.1
  case neg =>
    have : ¬ a = b := fun e => h1 (by rw [e])
    simp [h1]; exact retA_of (by simpa [eqR, Rt.lab, this] using hq)
  by_cases h2 : a.2 = b.2
  case neg =>
    have : ¬ a = b := fun e => h2 (by rw [e])
    simp [h1, h2]; exact retA_of (by simpa [eqR, Rt.lab, this] using hq)
  have hab : a = b := Prod.ext h1 h2
  simp [h1, h2]
  by_cases hl : us.length = vs.length
  · simp [hl]
    refine loop_ix us.length (fun k => eqRL us vs = eqRL (us.drop k) (vs.drop k)) (by simp) fun k hk hi K hK => ?_
    by_cases hlt : k < us.length
    · have hlv : k < vs.length := by omega
      have hlt' : (k : Int) < us.length := by omega
      have hlv' : (k : Int) < vs.length := by omega
      have hn := kid_nodes hlt
      simp [hlt', hlt, hlv, hlv']
      refine callS_of ?_
      simp only [tm_eta, sr_eta]
      refine ih us[k] (List.getElem_mem hlt) vs[k] (by omega) ?_
      rw [Rt.eqRL_drop hlt hlv] at hi
      cases he : eqR us[k] vs[k] with
      | false => rw [he] at hi; simp; exact retA_of (by simpa [eqR, Rt.lab, Rt.kids, hi] using hq)
      | true => rw [he] at hi; simp [wrap_k (k := k) (by omega)]; exact hK hlt (by rw [hi]; simp)
    · have hkn : k = us.length := by omega
      subst hkn
      have : ¬ ((us.length : Int) < vs.length) := by omega
      simp [this]
      rw [List.drop_length] at hi
      have hi2 : eqRL us vs = true := by rw [hi]; simp [eqRL]
      exact retA_of (by simpa [eqR, Rt.lab, Rt.kids, hi2, hab, hl] using hq)
  · have hl' : ¬ (us.length : Int) = vs.length := by omega
    simp [hl']
    exact retA_of (by simpa [eqR, Rt.lab, Rt.kids, hl] using hq)
theorem vref02_Equal_c (a : Tm) : ∀ (b : Tm) {h : Heap} {Q : AV → Heap → Prop}, a.nodes ≤ 1000000000 → Q (B (eqR a b)) h → ACalls prog n_vref02_Equal [tm a, tm b] h Q := by
  refine Rt.ind (P := fun a => ∀ (b : Tm) {h : Heap} {Q : AV → Heap → Prop}, a.nodes ≤ 1000000000 → Q (B (eqR a b)) h → ACalls prog n_vref02_Equal [tm a, tm b] h Q) (fun a us ih => ?_) a
  intro b h Q hm hq
  obtain ⟨b, vs⟩ := b
  refine vref02_Equal_call ?_
  unfold vref02_Equal tm
  simp only [Rt.nodes] at hm
  have hlen := Rt.length_le us
  simp [tmC]
  by_cases h1 : a.1 = b.1
  case neg =>
    have : ¬ a = b := fun e => h1 (by rw [e])
    simp [h1]; exact retA_of (by simpa [eqR, Rt.lab, this] using hq)
  by_cases h2 : a.2 = b.2
  case neg =>
    have : ¬ a = b := fun e => h2 (by rw [e])
    simp [h1, h2]; exact retA_of (by simpa [eqR, Rt.lab, this] using hq)
  have hab : a = b := Prod.ext h1 h2
  simp [h1, h2]
  by_cases hl : us.length = vs.length
  · simp [hl]
    refine loop_ix us.length (fun k => eqRL us vs = eqRL (us.drop k) (vs.drop k)) (by simp) fun k hk hi K hK => ?_
    by_cases hlt : k < us.length
    · have hlv : k < vs.length := by omega
      have hlt' : (k : Int) < us.length := by omega
      have hlv' : (k : Int) < vs.length := by omega
      have hn := kid_nodes hlt
      simp [hlt', hlt, hlv, hlv']
      refine callS_of ?_
      simp only [tm_eta, sr_eta]
      refine ih us[k] (List.getElem_mem hlt) vs[k] (by omega) ?_
      rw [Rt.eqRL_drop hlt hlv] at hi
      cases he : eqR us[k] vs[k] with
      | false => rw [he] at hi; simp; exact retA_of (by simpa [eqR, Rt.lab, Rt.kids, hi] using hq)
      | true => rw [he] at hi; simp [wrap_k (k := k) (by omega)]; exact hK hlt (by rw [hi]; simp)
    · have hkn : k = us.length := by omega
      subst hkn
      have : ¬ ((us.length : Int) < vs.length) := by omega
      simp [this]
      rw [List.drop_length] at hi
      have hi2 : eqRL us vs = true := by rw [hi]; simp [eqRL]
      exact retA_of (by simpa [eqR, Rt.lab, Rt.kids, hi2, hab, hl] using hq)
  · have hl' : ¬ (us.length : Int) = vs.length := by omega
    simp [hl']
    exact retA_of (by simpa [eqR, Rt.lab, Rt.kids, hl] using hq)
theorem sorts_same_c (a : Srt) : ∀ (b : Srt) {h : Heap} {Q : AV → Heap → Prop}, a.nodes ≤ 1000000000 → Q (B (eqR a b)) h → ACalls prog n_sorts_same [sr a, sr b] h Q := by
  refine Rt.ind (P := fun a => ∀ (b : Srt) {h : Heap} {Q : AV → Heap → Prop}, a.nodes ≤ 1000000000 → Q (B (eqR a b)) h → ACalls prog n_sorts_same [sr a, sr b] h Q) (fun a us ih => ?_) a
  intro b h Q hm hq
  obtain ⟨b, vs⟩ := b
  refine sorts_same_call ?_
  unfold sorts_same sr
  simp only [Rt.nodes] at hm
  have hlen := Rt.length_le us
  simp [srC]
  by_cases hl : us.length = vs.length
  · simp [hl]
    refine loop_ix us.length (fun k => eqRL us vs = eqRL (us.drop k) (vs.drop k)) (by simp) fun k hk hi K hK => ?_
    by_cases hlt : k < us.length
    · have hlv : k < vs.length := by omega
      have hlt' : (k : Int) < us.length := by omega
      have hlv' : (k : Int) < vs.length := by omega
      have hn := kid_nodes hlt
      simp [hlt', hlt, hlv, hlv']
      refine callS_of ?_
      simp only [tm_eta, sr_eta]
      refine ih us[k] (List.getElem_mem hlt) vs[k] (by omega) ?_
      rw [Rt.eqRL_drop hlt hlv] at hi
      cases he : eqR us[k] vs[k] with
      | false => rw [he] at hi; simp; exact retA_of (by simpa [eqR, Rt.lab, Rt.kids, hi] using hq)
      | true => rw [he] at hi; simp [wrap_k (k := k) (by omega)]; exact hK hlt (by rw [hi]; simp)
    · have hkn : k = us.length := by omega
      subst hkn
      have : ¬ ((us.length : Int) < vs.length) := by omega
      simp [this]
      rw [List.drop_length] at hi
      have hi2 : eqRL us vs = true := by rw [hi]; simp [eqRL]
      exact retA_of (by simpa [eqR, Rt.lab, Rt.kids, hi2, hl] using hq)
  · have hl' : ¬ (us.length : Int) = vs.length := by omega
    simp [hl']
    exact retA_of (by simpa [eqR, Rt.lab, Rt.kids, hl] using hq)
theorem vref01_Equal_c (a : Srt) : ∀ (b : Srt) {h : Heap} {Q : AV → Heap → Prop}, a.nodes ≤ 1000000000 → Q (B (eqR a b)) h → ACalls prog n_vref01_Equal [sr a, sr b] h Q := by
  refine Rt.ind (P := fun a => ∀ (b : Srt) {h : Heap} {Q : AV → Heap → Prop}, a.nodes ≤ 1000000000 → Q (B (eqR a b)) h → ACalls prog n_vref01_Equal [sr a, sr b] h Q) (fun a us ih => ?_) a
  intro b h Q hm hq
  obtain ⟨b, vs⟩ := b
  refine vref01_Equal_call ?_
  unfold vref01_Equal sr
  simp only [Rt.nodes] at hm
  have hlen := Rt.length_le us
  simp [srC]
  by_cases hl : us.length = vs.length
  · simp [hl]
    refine loop_ix us.length (fun k => eqRL us vs = eqRL (us.drop k) (vs.drop k)) (by simp) fun k hk hi K hK => ?_
    by_cases hlt : k < us.length
    · have hlv : k < vs.length := by omega
      have hlt' : (k : Int) < us.length := by omega
      have hlv' : (k : Int) < vs.length := by omega
      have hn := kid_nodes hlt
      simp [hlt', hlt, hlv, hlv']
      refine callS_of ?_
      simp only [tm_eta, sr_eta]
      refine ih us[k] (List.getElem_mem hlt) vs[k] (by omega) ?_
      rw [Rt.eqRL_drop hlt hlv] at hi
      cases he : eqR us[k] vs[k] with
      | false => rw [he] at hi; simp; exact retA_of (by simpa [eqR, Rt.lab, Rt.kids, hi] using hq)
      | true => rw [he] at hi; simp [wrap_k (k := k) (by omega)]; exact hK hlt (by rw [hi]; simp)
    · have hkn : k = us.length := by omega
      subst hkn
      have : ¬ ((us.length : Int) < vs.length) := by omega
      simp [this]
      rw [List.drop_length] at hi
      have hi2 : eqRL us vs = true := by rw [hi]; simp [eqRL]
      exact retA_of (by simpa [eqR, Rt.lab, Rt.kids, hi2, hl] using hq)
  · have hl' : ¬ (us.length : Int) = vs.length := by omega
    simp [hl']
    exact retA_of (by simpa [eqR, Rt.lab, Rt.kids, hl] using hq)
theorem term_Same_c (a b : Tm) {h : Heap} {Q : AV → Heap → Prop} (hq : Q (B (decide (a.nodes ≤ 100000) && decide (b.nodes ≤ 100000) && eqR a b)) h) : ACalls prog n_term_Same [tm a, tm b] h Q := by
  refine term_Same_call ?_
  unfold term_Same tm
  simp
  refine callS_of ?_
  rw [tm_eta, tm_eta]
  refine term_large_c a ?_
  by_cases h1 : a.nodes ≤ 100000
  · have h1' : ¬ 100000 < a.nodes := by omega
    simp [h1']
    refine callS_of (term_large_c b ?_)
    by_cases h2 : b.nodes ≤ 100000
    · have h2' : ¬ 100000 < b.nodes := by omega
      simp [h2']
      exact callS_of (term_same_c a b (by omega) (retA_of (by simpa [h1, h2] using hq)))
    · have h2' : 100000 < b.nodes := by omega
      simp [h2']; exact retA_of (by simpa [h1, h2] using hq)
  · have h1' : 100000 < a.nodes := by omega
    simp [h1']; exact retA_of (by simpa [h1] using hq)
theorem sorts_Same_c (a b : Srt) {h : Heap} {Q : AV → Heap → Prop} (hq : Q (B (decide (a.nodes ≤ 60) && eqR a b)) h) : ACalls prog n_sorts_Same [sr a, sr b] h Q := by
  refine sorts_Same_call ?_
  unfold sorts_Same sr
  simp
  refine callS_of ?_
  rw [sr_eta, sr_eta]
  refine sorts_Size_c a ?_
  simp
  refine callS_of (sorts_Size_c b ?_)
  by_cases h1 : a.nodes ≤ 60
  · have e1 : szN 60 a ≤ 60 := by simp [szN, h1]; omega
    simp [e1]
    by_cases h2 : b.nodes = a.nodes
    · have e2 : szN 60 a = szN 60 b := by simp [szN, h2]
      simp [e2]
      exact callS_of (sorts_same_c a b (by omega) (retA_of (by simpa [h1] using hq)))
    · have e2 : ¬ szN 60 a = szN 60 b := by simp only [szN, h1, if_true]; split <;> omega
      simp [e2]
      have : eqR a b = false := by
        cases he : eqR a b with
        | false => rfl
        | true => exact absurd (by rw [(eqR_iff a b).1 he]) h2
      exact retA_of (by simpa [this] using hq)
  · have e1 : ¬ szN 60 a ≤ 60 := by simp only [szN, h1, if_false]; omega
    simp [e1]
    exact retA_of (by simpa [h1] using hq)
theorem term_copied_c (t : Tm) : ∀ {h : Heap} {Q : AV → Heap → Prop}, t.nodes ≤ 1000000000 → (∀ x h', SlO 3 (tmCs t.kids) h x h' → Q (.agg [I t.lab.1, I t.lab.2, x]) h') → ACalls prog n_term_copied [tm t] h Q := by
  refine Rt.ind (P := fun t => ∀ {h : Heap} {Q : AV → Heap → Prop}, t.nodes ≤ 1000000000 → (∀ x h', SlO 3 (tmCs t.kids) h x h' → Q (.agg [I t.lab.1, I t.lab.2, x]) h') → ACalls prog n_term_copied [tm t] h Q) (fun a us ih => ?_) t
  intro h Q hm hq
  refine term_copied_call ?_
  unfold term_copied tm
  simp only [Rt.nodes] at hm
  have hlen := Rt.length_le us
  simp [tmC]
  refine loop_up us.length (fun k σ h' => ∃ x, σ = [I k, I a.1, I a.2, x] ∧ SlO 3 (tmCs (us.take k)) h x h') ⟨.e0, rfl, by simp [tmCs]; exact SlO.nil 3⟩ (fun k σ' h' ⟨x, e, _⟩ => by rw [e]; rfl) ?_
  rintro k σ' h' K hk ⟨x, rfl, hs⟩ hK
  by_cases hlt : k < us.length
  · have hlt' : (k : Int) < us.length := by omega
    have hn := kid_nodes hlt
    simp [hlt', hlt]
    refine callS_of ?_
    rw [tm_eta]
    refine ACalls.wk1 (ih us[k] (List.getElem_mem hlt) (by omega) fun y h2 hy => ?_)
    obtain ⟨r1, r2⟩ := hy.wk (tmCs_sz _)
    refine ⟨_, _, Ref.aggs (.cons .refl (.cons .refl (.cons r1 .nil))), r2, ?_⟩
    simp
    refine hs.app (by simp; omega) fun x2 h3 hs2 => ?_
    rw [hs2.one]
    rw [wrap_k (k := k) (by omega)]
    refine hK hlt _ _ ⟨x2, rfl, ?_⟩
    rw [tmCs_snoc hlt, tmC_e]
    exact hs2
  · have hkn : k = us.length := by omega
    subst hkn
    simp
    rw [List.take_length] at hs
    exact retA_of (hq x h' hs)
theorem vref02_Copy_c (t : Tm) : ∀ {h : Heap} {Q : AV → Heap → Prop}, t.nodes ≤ 1000000000 → (∀ x h', SlO 3 (tmCs t.kids) h x h' → Q (.agg [I t.lab.1, I t.lab.2, x]) h') → ACalls prog n_vref02_Copy [tm t] h Q := by
  refine Rt.ind (P := fun t => ∀ {h : Heap} {Q : AV → Heap → Prop}, t.nodes ≤ 1000000000 → (∀ x h', SlO 3 (tmCs t.kids) h x h' → Q (.agg [I t.lab.1, I t.lab.2, x]) h') → ACalls prog n_vref02_Copy [tm t] h Q) (fun a us ih => ?_) t
  intro h Q hm hq
  refine vref02_Copy_call ?_
  unfold vref02_Copy tm
  simp only [Rt.nodes] at hm
  have hlen := Rt.length_le us
  simp [tmC]
  refine loop_up us.length (fun k σ h' => ∃ x, σ = [I k, I a.1, I a.2, x] ∧ SlO 3 (tmCs (us.take k)) h x h') ⟨.e0, rfl, by simp [tmCs]; exact SlO.nil 3⟩ (fun k σ' h' ⟨x, e, _⟩ => by rw [e]; rfl) ?_
  rintro k σ' h' K hk ⟨x, rfl, hs⟩ hK
  by_cases hlt : k < us.length
  · have hlt' : (k : Int) < us.length := by omega
    have hn := kid_nodes hlt
    simp [hlt', hlt]
    refine callS_of ?_
    rw [tm_eta]
    refine ACalls.wk1 (ih us[k] (List.getElem_mem hlt) (by omega) fun y h2 hy => ?_)
    obtain ⟨r1, r2⟩ := hy.wk (tmCs_sz _)
    refine ⟨_, _, Ref.aggs (.cons .refl (.cons .refl (.cons r1 .nil))), r2, ?_⟩
    simp
    refine hs.app (by simp; omega) fun x2 h3 hs2 => ?_
    rw [hs2.one]
    rw [wrap_k (k := k) (by omega)]
    refine hK hlt _ _ ⟨x2, rfl, ?_⟩
    rw [tmCs_snoc hlt, tmC_e]
    exact hs2
  · have hkn : k = us.length := by omega
    subst hkn
    simp
    rw [List.take_length] at hs
    exact retA_of (hq x h' hs)
theorem vref02_Copy_f (t : Tm) {h : Heap} {Q : AV → Heap → Prop} (ht : t.nodes ≤ 1000000000) (hq : Q (tm t) h) : ACalls prog n_vref02_Copy [tm t] h Q :=
  ACalls.wk (vref02_Copy_c t ht fun x h' hs => by
    obtain ⟨r1, r2⟩ := hs.wk (tmCs_sz _)
    exact Wk.one (Ref.aggs (.cons .refl (.cons .refl (.cons r1 .nil)))) r2 (by rw [tm_eta]; exact hq))
theorem vref01_Copy_f (t : Srt) : ∀ {h : Heap} {Q : AV → Heap → Prop}, t.nodes ≤ 1000000000 → Q (sr t) h → ACalls prog n_vref01_Copy [sr t] h Q := by
  refine Rt.ind (P := fun t => ∀ {h : Heap} {Q : AV → Heap → Prop}, t.nodes ≤ 1000000000 → Q (sr t) h → ACalls prog n_vref01_Copy [sr t] h Q) (fun a us ih => ?_) t
  intro h Q hm hq
  refine vref01_Copy_call ?_
  unfold vref01_Copy sr
  simp only [Rt.nodes] at hm
  have hlen := Rt.length_le us
  simp [srC]
  refine loop_up us.length (fun k σ h' => ∃ x, σ = [I k, x] ∧ SlO 1 (srCs (us.take k)) h x h') ⟨.e0, rfl, by simp [srCs]; exact SlO.nil 1⟩ (fun k σ' h' ⟨x, e, _⟩ => by rw [e]; rfl) ?_
  rintro k σ' h' K hk ⟨x, rfl, hs⟩ hK
  by_cases hlt : k < us.length
  · have hlt' : (k : Int) < us.length := by omega
    have hn := kid_nodes hlt
    simp [hlt', hlt]
    refine callS_of ?_
    rw [sr_eta]
    refine ih us[k] (List.getElem_mem hlt) (by omega) ?_
    simp [sr]
    refine hs.app (by simp; omega) fun x2 h3 hs2 => ?_
    rw [hs2.one]
    rw [wrap_k (k := k) (by omega)]
    refine hK hlt _ _ ⟨x2, rfl, ?_⟩
    rw [srCs_snoc hlt]; exact hs2
  · have hkn : k = us.length := by omega
    subst hkn
    simp
    rw [List.take_length] at hs
    obtain ⟨r1, r2⟩ := hs.wk (srCs_sz _)
    exact retA_wk (Ref.aggs (.cons r1 .nil)) r2 hq
end Am
set_option linter.unusedVariables false
set_option linter.unusedSimpArgs false
namespace Am
open Go Go.Proofs.Tryz
open Rt (eqR eqRL eqR_iff)
def so : Srt := .mk () []
def headR (p : Pl) (a : Int × Int) : Srt × Bool :=
  if a.2 < 0 then (so, false)
  else if a.1 = 0 then (if a.2 < p.params.length then (p.params.getD a.2.toNat so, true) else (so, false))
  else if a.1 = 1 then (if a.2 < p.funs.length then (p.funs.getD a.2.toNat so, true) else (so, false))
  else if a.1 = 2 then (if a.2 < p.syms.length then (.mk () (List.replicate (p.syms.getD a.2.toNat (⟨#[]⟩, 0)).2.toNat so), true) else (so, false))
  else (so, false)
mutual
def sortR (p : Pl) : Tm → Srt × Bool
  | .mk a us => if (headR p a).2 && decide (us.length ≤ (headR p a).1.kids.length) && argsB p us (headR p a).1.kids then (.mk () ((headR p a).1.kids.drop us.length), true) else (so, false)
def argsB (p : Pl) : List Tm → List Srt → Bool
  | [], _ => true
  | u :: us, l => (match l with | [] => true | x :: xs => (sortR p u).2 && eqR (sortR p u).1 x && argsB p us xs)
end
theorem argsB_drop {p : Pl} {us : List Tm} {ks : List Srt} {k : Nat} (hk : k < us.length) (hl : k < ks.length) : argsB p (us.drop k) (ks.drop k) = ((sortR p us[k]).2 && eqR (sortR p us[k]).1 ks[k] && argsB p (us.drop (k + 1)) (ks.drop (k + 1))) := by
  rw [List.drop_eq_getElem_cons hk, List.drop_eq_getElem_cons hl]; simp [argsB]
theorem symsB_rank : ∀ {l : List Sy} {seen : List ByteArray}, symsB l seen = true → ∀ s, s ∈ l → 0 ≤ s.2 ∧ s.2 ≤ 4
  | [], _, _, s, hs => by cases hs
  | x :: r, seen, h, s, hs => by
    simp only [symsB, Bool.and_eq_true, decide_eq_true_eq] at h
    rcases List.mem_cons.1 hs with rfl | hs
    · exact ⟨h.1.1.2, h.1.2⟩
    · exact symsB_rank h.2 s hs
structure PlOk (p : Pl) : Prop where
  rank : ∀ s, s ∈ p.syms → 0 ≤ s.2 ∧ s.2 ≤ 4
  nsyms : p.syms.length ≤ 24
  nfuns : p.funs.length ≤ 64
  npar : p.params.length ≤ 8
  funs : ∀ s, s ∈ p.funs → okS s = true
  params : ∀ s, s ∈ p.params → okS s = true
theorem ref_so {h h' : Heap} : Ref h h' (.agg [.e0]) (sr so) := Ref.aggs (.cons .e0 .nil)
theorem ret_so {h : Heap} {Q : AV → Heap → Prop} {b : Bool} (hq : Q (.tup [sr so, B b]) h) : retA (.tup [.agg [.e0], .val (.bool b)]) h Q :=
  retA_wk (Ref.tups (.cons ref_so (.cons .refl .nil))) (HRef.refl h) hq
theorem mk_syms {r : Int} (h0 : 0 ≤ r) (h4 : r ≤ 4) {h : Heap} {Q : AV → Heap → Prop} (hq : Q (.tup [sr (.mk () (List.replicate r.toNat so)), B true]) h) :
    mkA 1 24 [.e0] (I r) (I r) h fun x h2 => oneA x (retA (.tup [.agg [x], .val (.bool true)]) h2 Q) := by
  refine ⟨rfl, h0, by omega, fun id hid => ?_⟩
  show retA _ _ _
  have hl : (srCs (List.replicate r.toNat so)).length = r.toNat := by simp
  refine retA_wk (Ref.tups (.cons (Ref.aggs (.cons (.frz (Heap.set_same h id _) hid (by simp) hl (fun i hi => ?_) fun i j hi hj => ?_) .nil)) (.cons .refl .nil))) (HRef.drop hid) hq
  · rw [srCs_get (by simpa using hi)]; rfl
  · obtain rfl : j = 0 := by omega
    rw [srCs_get (by simpa using hi)]
    simp only [List.getD_eq_getElem?_getD, List.getElem?_replicate, hi, if_true, Option.getD_some, g_0, List.getElem_replicate]
    exact .e0
theorem head_tac {p : Pl} (hp : PlOk p) {a : Int × Int} {h : Heap} {Q : AV → Heap → Prop} (hq : Q (.tup [sr (headR p a).1, B (headR p a).2]) h) :
    (a.2 < 0 → retA (.tup [.agg [.e0], .val (.bool false)]) h Q) ∧
    (¬ a.2 < 0 → a.1 = 0 → (a.2 < p.params.length → ∀ hk : a.2.toNat < p.params.length, retA (.tup [.agg [srC p.params[a.2.toNat]], .val (.bool true)]) h Q) ∧ (¬ a.2 < p.params.length → retA (.tup [.agg [.e0], .val (.bool false)]) h Q)) ∧
    (¬ a.2 < 0 → a.1 = 1 → (a.2 < p.funs.length → ∀ hk : a.2.toNat < p.funs.length, retA (.tup [.agg [srC p.funs[a.2.toNat]], .val (.bool true)]) h Q) ∧ (¬ a.2 < p.funs.length → retA (.tup [.agg [.e0], .val (.bool false)]) h Q)) ∧
    (¬ a.2 < 0 → a.1 = 2 → (a.2 < p.syms.length → ∀ hk : a.2.toNat < p.syms.length, mkA 1 24 [.e0] (I p.syms[a.2.toNat].2) (I p.syms[a.2.toNat].2) h fun x h2 => oneA x (retA (.tup [.agg [x], .val (.bool true)]) h2 Q)) ∧ (¬ a.2 < p.syms.length → retA (.tup [.agg [.e0], .val (.bool false)]) h Q)) ∧
    (¬ a.2 < 0 → a.1 ≠ 0 → a.1 ≠ 1 → a.1 ≠ 2 → retA (.tup [.agg [.e0], .val (.bool false)]) h Q) := by
  unfold headR at hq
  refine ⟨fun h0 => ret_so ?_, fun h0 h1 => ⟨fun h2 hk => retA_of ?_, fun h2 => ret_so ?_⟩, fun h0 h1 => ⟨fun h2 hk => retA_of ?_, fun h2 => ret_so ?_⟩, fun h0 h1 => ⟨fun h2 hk => mk_syms (hp.rank _ (List.getElem_mem hk)).1 (hp.rank _ (List.getElem_mem hk)).2 ?_, fun h2 => ret_so ?_⟩, fun h0 h1 h2 h3 => ret_so ?_⟩
  · simpa [h0] using hq
  · simpa [h0, h1, h2, hk, List.getD_eq_getElem?_getD, sr] using hq
  · simpa [h0, h1, h2] using hq
  · simpa [h0, h1, h2, hk, List.getD_eq_getElem?_getD, sr] using hq
  · simpa [h0, h1, h2] using hq
  · simpa [h0, h1, h2, hk, List.getD_eq_getElem?_getD, sr] using hq
  · simpa [h0, h1, h2] using hq
  · simpa [h0, h1, h2, h3] using hq
theorem term_Place_head_c (p : Pl) (hp : PlOk p) (t : Tm) {h : Heap} {Q : AV → Heap → Prop} (hq : Q (.tup [sr (headR p t.lab).1, B (headR p t.lab).2]) h) : ACalls prog n_term_Place_head [pl p, tm t] h Q := by
  refine term_Place_head_call ?_
  unfold term_Place_head pl tm
  obtain ⟨H0, H1, H2, H3, H4⟩ := head_tac hp hq
  simp
  by_cases h0 : t.lab.2 < 0
  · simp [h0]; exact H0 h0
  simp [h0]
  have h0' : 0 ≤ t.lab.2 := by omega
  by_cases k0 : t.lab.1 = 0
  · obtain ⟨a1, a2⟩ := H1 h0 k0
    simp [k0]
    by_cases hl : t.lab.2 < p.params.length
    · have hk : t.lab.2.toNat < p.params.length := by omega
      simp [hl, h0', hk]; exact a1 hl hk
    · simp [hl]; exact a2 hl
  by_cases k1 : t.lab.1 = 1
  · obtain ⟨a1, a2⟩ := H2 h0 k1
    simp [k1]
    by_cases hl : t.lab.2 < p.funs.length
    · have hk : t.lab.2.toNat < p.funs.length := by omega
      simp [hl, h0', hk]; exact a1 hl hk
    · simp [hl]; exact a2 hl
  by_cases k2 : t.lab.1 = 2
  · obtain ⟨a1, a2⟩ := H3 h0 k2
    simp [k2]
    by_cases hl : t.lab.2 < p.syms.length
    · have hk : t.lab.2.toNat < p.syms.length := by omega
      simp [hl, h0', hk]; exact a1 hl hk
    · simp [hl]; exact a2 hl
  · simp [k0, k1, k2]; exact H4 h0 k0 k1 k2
theorem vref02_head_c (p : Pl) (hp : PlOk p) (t : Tm) {h : Heap} {Q : AV → Heap → Prop} (hq : Q (.tup [sr (headR p t.lab).1, B (headR p t.lab).2]) h) : ACalls prog n_vref02_head [pl p, tm t] h Q := by
  refine vref02_head_call ?_
  unfold vref02_head pl tm
  obtain ⟨H0, H1, H2, H3, H4⟩ := head_tac hp hq
  simp
  by_cases h0 : t.lab.2 < 0
  · simp [h0]; exact H0 h0
  simp [h0]
  have h0' : 0 ≤ t.lab.2 := by omega
  by_cases k0 : t.lab.1 = 0
  · obtain ⟨a1, a2⟩ := H1 h0 k0
    simp [k0]
    by_cases hl : t.lab.2 < p.params.length
    · have hk : t.lab.2.toNat < p.params.length := by omega
      simp [hl, h0', hk]; exact a1 hl hk
    · simp [hl]; exact a2 hl
  by_cases k1 : t.lab.1 = 1
  · obtain ⟨a1, a2⟩ := H2 h0 k1
    simp [k1]
    by_cases hl : t.lab.2 < p.funs.length
    · have hk : t.lab.2.toNat < p.funs.length := by omega
      simp [hl, h0', hk]; exact a1 hl hk
    · simp [hl]; exact a2 hl
  by_cases k2 : t.lab.1 = 2
  · obtain ⟨a1, a2⟩ := H3 h0 k2
    simp [k2]
    by_cases hl : t.lab.2 < p.syms.length
    · have hk : t.lab.2.toNat < p.syms.length := by omega
      simp [hl, h0', hk]; exact a1 hl hk
    · simp [hl]; exact a2 hl
  · simp [k0, k1, k2]; exact H4 h0 k0 k1 k2
theorem okS_iff (s : Srt) : okS s = true ↔ s.nodes ≤ 60 ∧ s.depth ≤ 30 ∧ few s = true := by simp [okS, and_assoc]
theorem few_iff (a : Unit) (us : List Srt) : few (.mk a us) = true ↔ fewL us = true ∧ us.length ≤ 8 := by simp [few]
theorem fewL_append (l l' : List Srt) : fewL (l ++ l') = (fewL l && fewL l') := by
  induction l with
  | nil => rfl
  | cons s l ih => simp [fewL, ih, Bool.and_assoc]
theorem okS_drop {s : Srt} (hs : okS s = true) (k : Nat) : okS (.mk () (s.kids.drop k)) = true := by
  obtain ⟨a, us⟩ := s
  rw [okS_iff] at hs ⊢
  obtain ⟨h1, h2, h3⟩ := hs
  rw [few_iff] at h3 ⊢
  show Rt.nodes (.mk () (us.drop k)) ≤ 60 ∧ Rt.depth (.mk () (us.drop k)) ≤ 30 ∧ fewL (us.drop k) = true ∧ (us.drop k).length ≤ 8
  have n1 : Rt.nodesL us = Rt.nodesL (us.take k) + Rt.nodesL (us.drop k) := by rw [← Rt.nodesL_append, List.take_append_drop]
  have n2 : Rt.depthL us = max (Rt.depthL (us.take k)) (Rt.depthL (us.drop k)) := by rw [← Rt.depthL_append, List.take_append_drop]
  have n3 : fewL us = (fewL (us.take k) && fewL (us.drop k)) := by rw [← fewL_append, List.take_append_drop]
  rw [n3, Bool.and_eq_true] at h3
  simp only [Rt.nodes, Rt.depth] at h1 h2 ⊢
  rw [List.length_drop]
  exact ⟨by omega, by omega, h3.1.2, by omega⟩
theorem okS_rep {n : Nat} (hn : n ≤ 4) : okS (.mk () (List.replicate n so)) = true := by
  match n, hn with
  | 0, _ => decide
  | 1, _ => decide
  | 2, _ => decide
  | 3, _ => decide
  | 4, _ => decide
theorem okS_so : okS so = true := by decide
theorem headR_ok {p : Pl} (hp : PlOk p) (a : Int × Int) : okS (headR p a).1 = true := by
  unfold headR
  split
  · exact okS_so
  split
  · split
    · have hk : a.2.toNat < p.params.length := by omega
      simp only [List.getD_eq_getElem?_getD, List.getElem?_eq_getElem hk, Option.getD_some]
      exact hp.params _ (List.getElem_mem hk)
    · exact okS_so
  split
  · split
    · have hk : a.2.toNat < p.funs.length := by omega
      simp only [List.getD_eq_getElem?_getD, List.getElem?_eq_getElem hk, Option.getD_some]
      exact hp.funs _ (List.getElem_mem hk)
    · exact okS_so
  split
  · split
    · have hk : a.2.toNat < p.syms.length := by omega
      simp only [List.getD_eq_getElem?_getD, List.getElem?_eq_getElem hk, Option.getD_some]
      exact okS_rep (by have := (hp.rank _ (List.getElem_mem hk)).2; omega)
    · exact okS_so
  · exact okS_so
theorem sortR_ok {p : Pl} (hp : PlOk p) (t : Tm) : okS (sortR p t).1 = true := by
  obtain ⟨a, us⟩ := t
  unfold sortR
  split
  · exact okS_drop (headR_ok hp a) _
  · exact okS_so
theorem okS_nodes {s : Srt} (h : okS s = true) : s.nodes ≤ 60 := by unfold okS at h; simp at h; exact h.1.1
theorem term_Place_sort_c (p : Pl) (hp : PlOk p) (t : Tm) : ∀ {h : Heap} {Q : AV → Heap → Prop}, t.nodes ≤ 1000000000 → Q (.tup [sr (sortR p t).1, B (sortR p t).2]) h → ACalls prog n_term_Place_sort [pl p, tm t] h Q := by
  refine Rt.ind (P := fun t => ∀ {h : Heap} {Q : AV → Heap → Prop}, t.nodes ≤ 1000000000 → Q (.tup [sr (sortR p t).1, B (sortR p t).2]) h → ACalls prog n_term_Place_sort [pl p, tm t] h Q) (fun a us ih => ?_) t
  intro h Q hm hq
  refine term_Place_sort_call ?_
  have hpe : ∀ x y z : AV, True := fun _ _ _ => trivial
  unfold term_Place_sort
  simp only [Rt.nodes] at hm
  have hlen := Rt.length_le us
  have hok := headR_ok hp a
  simp [pl, tm, tmC]
  refine callS_of ?_
  rw [pl_eta, show (.agg [I a.1, I a.2, .rs 3 (tmCs us)] : AV) = tm (.mk a us) from rfl]
  refine term_Place_head_c p hp _ ?_
  simp only [Rt.lab]
  unfold sortR at hq
  have hks := srC_eq (headR p a).1
  simp [sr]
  cases hb : (headR p a).2 with
  | false => simp; exact ret_so (by simpa [hb] using hq)
  | true =>
    rw [hks]
    simp
    by_cases hl : us.length ≤ (headR p a).1.kids.length
    · have hl' : ¬ (headR p a).1.kids.length < us.length := by omega
      simp only [hl', if_false]
      refine loop_up us.length (fun k σ h' => σ = [I k, .e0] ∧ h' = h ∧ argsB p us (headR p a).1.kids = argsB p (us.drop k) ((headR p a).1.kids.drop k)) ⟨rfl, rfl, by simp⟩ (fun k σ' h' ⟨e, _⟩ => by rw [e]; rfl) ?_
      rintro k σ' h' K hk ⟨rfl, rfl, hi⟩ hK
      by_cases hlt : k < us.length
      · have hlt' : (k : Int) < us.length := by omega
        have hlv : k < (headR p a).1.kids.length := by omega
        have hlv' : (k : Int) < (headR p a).1.kids.length := by omega
        have hn := kid_nodes hlt
        simp [hlt', hlt]
        refine callS_of ?_
        simp only [tm_eta, pl_eta]
        refine ih us[k] (List.getElem_mem hlt) (by omega) ?_
        rw [argsB_drop hlt hlv] at hi
        rw [hi] at hq
        simp [sr]
        cases hr : (sortR p us[k]).2 with
        | false => simp; exact ret_so (by simpa [hr] using hq)
        | true =>
          simp [hlv, hlv']
          refine callS_of ?_
          simp only [sr_eta]
          refine sorts_Same_c _ _ ?_
          simp only [okS_nodes (sortR_ok hp us[k]), decide_true, Bool.true_and]
          cases he : eqR (sortR p us[k]).1 (headR p a).1.kids[k] with
          | false => simp; exact ret_so (by simpa [hr, he] using hq)
          | true => simp [wrap_k (k := k) (by omega)]; exact hK hlt _ _ ⟨rfl, rfl, by rw [hi, hr, he]; rfl⟩
      · have hkn : k = us.length := by omega
        subst hkn
        have hl2 : (us.length : Int) ≤ (headR p a).1.kids.length := by omega
        simp [hl2]
        rw [List.drop_length] at hi
        have hi2 : argsB p us (headR p a).1.kids = true := by rw [hi]; simp [argsB]
        refine ⟨hl, retA_of ?_⟩
        rw [show srCs (headR p a).1.kids = (headR p a).1.kids.map fun s => [srC s] from srCs_eq _, ← List.map_drop, ← srCs_eq]
        simpa [hb, hl, hi2, sr, srC] using hq
    · have hl' : (headR p a).1.kids.length < us.length := by omega
      simp only [hl', if_true]
      exact ret_so (by simpa [hl] using hq)
theorem vref02_Of_c (p : Pl) (hp : PlOk p) (t : Tm) : ∀ {h : Heap} {Q : AV → Heap → Prop}, t.nodes ≤ 1000000000 → Q (.tup [sr (sortR p t).1, B (sortR p t).2]) h → ACalls prog n_vref02_Of [pl p, tm t] h Q := by
  refine Rt.ind (P := fun t => ∀ {h : Heap} {Q : AV → Heap → Prop}, t.nodes ≤ 1000000000 → Q (.tup [sr (sortR p t).1, B (sortR p t).2]) h → ACalls prog n_vref02_Of [pl p, tm t] h Q) (fun a us ih => ?_) t
  intro h Q hm hq
  refine vref02_Of_call ?_
  unfold vref02_Of
  simp only [Rt.nodes] at hm
  have hlen := Rt.length_le us
  have hok := headR_ok hp a
  simp [pl, tm, tmC]
  refine callS_of ?_
  rw [pl_eta, show (.agg [I a.1, I a.2, .rs 3 (tmCs us)] : AV) = tm (.mk a us) from rfl]
  refine vref02_head_c p hp _ ?_
  simp only [Rt.lab]
  unfold sortR at hq
  have hks := srC_eq (headR p a).1
  simp [sr]
  cases hb : (headR p a).2 with
  | false => simp; exact ret_so (by simpa [hb] using hq)
  | true =>
    rw [hks]
    simp
    by_cases hl : us.length ≤ (headR p a).1.kids.length
    · have hl' : ¬ (headR p a).1.kids.length < us.length := by omega
      simp only [hl', if_false]
      refine loop_up us.length (fun k σ h' => σ = [I k, .e0] ∧ h' = h ∧ argsB p us (headR p a).1.kids = argsB p (us.drop k) ((headR p a).1.kids.drop k)) ⟨rfl, rfl, by simp⟩ (fun k σ' h' ⟨e, _⟩ => by rw [e]; rfl) ?_
      rintro k σ' h' K hk ⟨rfl, rfl, hi⟩ hK
      by_cases hlt : k < us.length
      · have hlt' : (k : Int) < us.length := by omega
        have hlv : k < (headR p a).1.kids.length := by omega
        have hlv' : (k : Int) < (headR p a).1.kids.length := by omega
        have hn := kid_nodes hlt
        simp [hlt', hlt]
        refine callS_of ?_
        simp only [tm_eta, pl_eta]
        refine ih us[k] (List.getElem_mem hlt) (by omega) ?_
        rw [argsB_drop hlt hlv] at hi
        rw [hi] at hq
        simp [sr]
        cases hr : (sortR p us[k]).2 with
        | false => simp; exact ret_so (by simpa [hr] using hq)
        | true =>
          simp [hlv, hlv']
          refine callS_of ?_
          simp only [sr_eta]
          refine vref01_Equal_c _ _ (by have := okS_nodes (sortR_ok hp us[k]); omega) ?_
          cases he : eqR (sortR p us[k]).1 (headR p a).1.kids[k] with
          | false => simp; exact ret_so (by simpa [hr, he] using hq)
          | true => simp [wrap_k (k := k) (by omega)]; exact hK hlt _ _ ⟨rfl, rfl, by rw [hi, hr, he]; rfl⟩
      · have hkn : k = us.length := by omega
        subst hkn
        have hl2 : (us.length : Int) ≤ (headR p a).1.kids.length := by omega
        simp [hl2]
        rw [List.drop_length] at hi
        have hi2 : argsB p us (headR p a).1.kids = true := by rw [hi]; simp [argsB]
        refine ⟨hl, retA_of ?_⟩
        rw [show srCs (headR p a).1.kids = (headR p a).1.kids.map fun s => [srC s] from srCs_eq _, ← List.map_drop, ← srCs_eq]
        simpa [hb, hl, hi2, sr, srC] using hq
    · have hl' : (headR p a).1.kids.length < us.length := by omega
      simp only [hl', if_true]
      exact ret_so (by simpa [hl] using hq)
end Am
set_option linter.unusedVariables false
set_option linter.unusedSimpArgs false
namespace Am
open Go Go.Proofs.Tryz
open Rt (eqR eqRL eqR_iff)
mutual
def sub (args : List Tm) : Tm → Tm
  | .mk a us => if a.1 = 0 then .mk (args.getD a.2.toNat default).lab ((args.getD a.2.toNat default).kids ++ subL args us) else .mk a (subL args us)
def subL (args : List Tm) : List Tm → List Tm
  | [] => []
  | u :: us => sub args u :: subL args us
end
def base (args : List Tm) (a : Int × Int) : Nat := if a.1 = 0 then (args.getD a.2.toNat default).nodes else 1
theorem HRef.sub {h h' : Heap} (hs : ∀ i n, h i = some n → h' i = some n) : HRef h' h := fun i n hn => ⟨n, hs i n hn, .refl⟩
end Am
set_option linter.unusedVariables false
set_option linter.unusedSimpArgs false
namespace Am
open Go Go.Proofs.Tryz
open Rt (eqR eqRL eqR_iff)
def ints (l : List Int) : List (List AV) := l.map fun n => [I n]
@[simp] theorem ints_len (l : List Int) : (ints l).length = l.length := by simp [ints]
@[simp] theorem ints_gE {l : List Int} {k : Nat} (hk : k < (ints l).length) : (ints l)[k] = [I (l[k]'(by simpa using hk))] := by simp [ints]
@[simp] theorem ints_drop (l : List Int) (k : Nat) : (ints l).drop k = ints (l.drop k) := by simp [ints]
def ins : List Int → Int → List Int
  | [], n => [n]
  | x :: r, n => if x < n then x :: ins r n else if x = n then n :: r else n :: x :: r
mutual
def vars : Tm → List Int → List Int
  | .mk a us, l => varsL us (if a.1 = 0 then ins l a.2 else l)
def varsL : List Tm → List Int → List Int
  | [], l => l
  | u :: us, l => varsL us (vars u l)
end
def szs (l : List Tm) : List Int := l.map fun t => (t.nodes : Int)
end Am
set_option linter.unusedVariables false
set_option linter.unusedSimpArgs false
namespace Am
open Go Go.Proofs.Tryz
open Rt (eqR eqRL eqR_iff)
end Am
set_option linter.unusedVariables false
set_option linter.unusedSimpArgs false
namespace Am
open Go Go.Proofs.Tryz
open Rt (eqR eqRL eqR_iff)
def p0 : Pl := ⟨[(⟨#[97]⟩, 2), (⟨#[99]⟩, 0)], [], [.mk () [so], so]⟩
def t0 : Tm := .mk (0, 0) [.mk (0, 0) [.mk (0, 1) []]]
def c1 : Tm := .mk (2, 1) []
theorem Heap.set_comm {h : Heap} {i j : Nat} (hij : i ≠ j) (a b : Node) : (h.set i a).set j b = (h.set j b).set i a := by
  funext k
  by_cases h1 : k = i
  · subst h1; rw [Heap.set_same, Heap.set_ne hij, Heap.set_same]
  · rw [Heap.set_ne h1]
    by_cases h2 : k = j
    · subst h2; rw [Heap.set_same, Heap.set_same]
    · rw [Heap.set_ne h2, Heap.set_ne h2, Heap.set_ne h1]
theorem SlO.cell {sz : Nat} {els : List (List AV)} {h h' : Heap} {i : Nat} {N : Node} {x : AV} (hs : SlO sz els (h.set i N) x h') : h' i = some N := by
  rcases hs with ⟨rfl, rfl, rfl⟩ | ⟨hne, id, hi, rfl, rfl⟩
  · exact Heap.set_same h i N
  · have : id ≠ i := fun e => by subst e; rw [Heap.set_same] at hi; cases hi
    rw [Heap.set_ne (fun e => this e.symm), Heap.set_same]
theorem SlO.base {sz : Nat} {els : List (List AV)} {h h' : Heap} {i : Nat} {N : Node} {x : AV} (hs : SlO sz els (h.set i N) x h') (N' : Node) : SlO sz els (h.set i N') x (h'.set i N') := by
  rcases hs with ⟨rfl, rfl, rfl⟩ | ⟨hne, id, hi, rfl, rfl⟩
  · exact .inl ⟨rfl, rfl, by rw [Heap.set_set]⟩
  · have h1 : id ≠ i := fun e => by subst e; rw [Heap.set_same] at hi; cases hi
    refine .inr ⟨hne, id, ?_, rfl, ?_⟩
    · rw [Heap.set_ne h1] at hi ⊢; exact hi
    · rw [Heap.set_comm (h := h.set i N) h1, Heap.set_set]
end Am
