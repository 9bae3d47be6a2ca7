/- Contracts: sizes and depths. -/
import Derived.Test.YtoifckjdnldlpaaF02
import Derived.Test.YtoifckjdnldlpaaK2
set_option linter.unusedVariables false
set_option linter.unusedSimpArgs false
namespace Am
open Go Go.Proofs.Try
def szN {α : Type} (c : Nat) (t : Rt α) : Int := if t.nodes ≤ c then t.nodes else c + 1
def szD {α : Type} (c : Nat) (t : Rt α) : Int := if t.nodes ≤ c then t.depth else 0
theorem tmC_e (t : Tm) : tmC t = [I t.lab.1, I t.lab.2, .rs 3 (tmCs t.kids)] := by cases t; rfl
theorem srC_e (t : Srt) : True := trivial
theorem sr_eta (s : Srt) : (.agg [srC s] : AV) = sr s := rfl
/-- What a measure leaves: of trees with N nodes and depth D, L nodes being left before. -/
def Meas (N D : Nat) (L d L' : Int) : Prop := -1 ≤ L' ∧ L' ≤ L ∧ 0 ≤ d ∧ d ≤ L - L' ∧ (N ≤ L → L' = L - N ∧ d = D) ∧ (L < N → L' = -1)
theorem term_measure_c {id : Nat} {Q : AV → Heap → Prop} (t : Tm) : ∀ {h : Heap} {L : Int}, h id = some (.arr 1 [[I L]]) → 0 ≤ L → L ≤ 1000000000 →
    (∀ d L', Meas t.nodes t.depth L d L' → Q (I d) (h.set id (.arr 1 [[I L']]))) → ACalls prog n_term_measure [tm t, .op id 0 0] h Q := by
  revert Q
  refine Rt.ind (P := fun t => ∀ {Q : AV → Heap → Prop} {h : Heap} {L : Int}, h id = some (.arr 1 [[I L]]) → 0 ≤ L → L ≤ 1000000000 →
    (∀ d L', Meas t.nodes t.depth L d L' → Q (I d) (h.set id (.arr 1 [[I L']]))) → ACalls prog n_term_measure [tm t, .op id 0 0] h Q) (fun a us ih => ?_) t
  intro Q h L hh h0 h1 hq
  refine term_measure_call ?_
  unfold term_measure tm
  have hw : IntKind.i64.wrap (L - 1) = L - 1 := wrap_i64 (by omega) (by omega)
  simp [tmC, w_loadV_op hh, w_store hh, splice, hw]
  refine loop_up us.length (fun k σ h' => ∃ d Lk, σ = [I d, I k] ∧ h' = h.set id (.arr 1 [[I Lk]]) ∧ -1 ≤ Lk ∧ Lk ≤ L - 1 ∧ 0 ≤ d ∧ d ≤ L - 1 - Lk ∧
    ((Rt.nodesL (us.take k) : Int) ≤ L - 1 → Lk = L - 1 - Rt.nodesL (us.take k) ∧ d = Rt.depthL (us.take k)) ∧ (L - 1 < Rt.nodesL (us.take k) → Lk = -1)) ?_ ?_ ?_
  · exact ⟨0, L - 1, rfl, rfl, by omega, by omega, by omega, by omega, fun _ => ⟨by simp [Rt.nodesL], by simp [Rt.depthL]⟩, fun h => by simp [Rt.nodesL] at h; omega⟩
  · rintro k σ' h' ⟨d, Lk, rfl, rfl, _⟩; rfl
  rintro k σ' h' K hk ⟨d, Lk, rfl, rfl, b1, b2, b3, b4, b5, b6⟩ hK
  have hh' := Heap.set_same h id (.arr 1 [[I Lk]])
  have hle := Rt.nodesL_take_le us k
  by_cases hlt : k < us.length
  · have hlt' : (k : Int) < us.length := by omega
    simp [hlt', hlt, w_loadV_op hh']
    have hn1 : (Rt.mk a us).nodes = Rt.nodesL us + 1 := by simp [Rt.nodes]
    by_cases hneg : Lk < 0
    · simp [hneg]
      refine retA_of (hq 0 Lk ⟨b1, by omega, by omega, by omega, fun h => ?_, fun _ => by omega⟩)
      exfalso; by_cases hc : (Rt.nodesL (us.take k) : Int) ≤ L - 1
      · obtain ⟨e1, e2⟩ := b5 hc; omega
      · omega
    · simp [hneg]
      refine callS_of ?_
      rw [tm_eta]
      refine ih us[k] (List.getElem_mem hlt) hh' (by omega) (by omega) fun d' L' hM => ?_
      have hl := Rt.length_le (us.take k)
      rw [List.length_take, Nat.min_eq_left hk] at hl
      have hc : (Rt.nodesL (us.take k) : Int) ≤ L - 1 := by
        by_cases hc : (Rt.nodesL (us.take k) : Int) ≤ L - 1
        · exact hc
        · have := b6 (by omega); omega
      have hw2 : IntKind.i64.wrap ((k : Int) + 1) = (k + 1 : Nat) := wrap_i64 (by omega) (by omega)
      obtain ⟨e1, e2⟩ := b5 hc
      obtain ⟨m1, m2, m3, m4, m5, m6⟩ := hM
      rw [Heap.set_set, w_max, hw2]
      refine hK hlt _ _ ⟨_, L', rfl, rfl, m1, by omega, by split <;> omega, by split <;> omega, fun hc2 => ?_, fun hc2 => ?_⟩
      · rw [Rt.nodesL_take_succ hlt] at hc2 ⊢
        rw [Rt.depthL_take_succ hlt]
        obtain ⟨f1, f2⟩ := m5 (by omega)
        exact ⟨by omega, by split <;> omega⟩
      · rw [Rt.nodesL_take_succ hlt] at hc2
        exact m6 (by omega)
  · have hlt' : ¬ ((k : Int) < us.length) := by omega
    have hw3 : IntKind.i64.wrap (d + 1) = d + 1 := wrap_i64 (by omega) (by omega)
    have hkn : k = us.length := by omega
    simp [hlt', hw3]
    rw [hkn, List.take_length] at b5 b6
    refine retA_of (hq (d + 1) Lk ⟨b1, by omega, by omega, by omega, fun h => ?_, fun h => ?_⟩)
    · simp only [Rt.nodes] at h ⊢
      obtain ⟨e1, e2⟩ := b5 (by omega)
      exact ⟨by omega, by simp [Rt.depth, e2]⟩
    · simp only [Rt.nodes] at h
      exact b6 (by omega)
theorem sorts_measure_c {id : Nat} {Q : AV → Heap → Prop} (t : Srt) : ∀ {h : Heap} {L : Int}, h id = some (.arr 1 [[I L]]) → 0 ≤ L → L ≤ 1000000000 →
    (∀ d L', Meas t.nodes t.depth L d L' → Q (I d) (h.set id (.arr 1 [[I L']]))) → ACalls prog n_sorts_measure [sr t, .op id 0 0] h Q := by
  revert Q
  refine Rt.ind (P := fun t => ∀ {Q : AV → Heap → Prop} {h : Heap} {L : Int}, h id = some (.arr 1 [[I L]]) → 0 ≤ L → L ≤ 1000000000 →
    (∀ d L', Meas t.nodes t.depth L d L' → Q (I d) (h.set id (.arr 1 [[I L']]))) → ACalls prog n_sorts_measure [sr t, .op id 0 0] h Q) (fun a us ih => ?_) t
  intro Q h L hh h0 h1 hq
  refine sorts_measure_call ?_
  unfold sorts_measure sr
  have hw : IntKind.i64.wrap (L - 1) = L - 1 := wrap_i64 (by omega) (by omega)
  simp [srC, w_loadV_op hh, w_store hh, splice, hw]
  refine loop_up us.length (fun k σ h' => ∃ d Lk, σ = [I d, I k] ∧ h' = h.set id (.arr 1 [[I Lk]]) ∧ -1 ≤ Lk ∧ Lk ≤ L - 1 ∧ 0 ≤ d ∧ d ≤ L - 1 - Lk ∧
    ((Rt.nodesL (us.take k) : Int) ≤ L - 1 → Lk = L - 1 - Rt.nodesL (us.take k) ∧ d = Rt.depthL (us.take k)) ∧ (L - 1 < Rt.nodesL (us.take k) → Lk = -1)) ?_ ?_ ?_
  · exact ⟨0, L - 1, rfl, rfl, by omega, by omega, by omega, by omega, fun _ => ⟨by simp [Rt.nodesL], by simp [Rt.depthL]⟩, fun h => by simp [Rt.nodesL] at h; omega⟩
  · rintro k σ' h' ⟨d, Lk, rfl, rfl, _⟩; rfl
  rintro k σ' h' K hk ⟨d, Lk, rfl, rfl, b1, b2, b3, b4, b5, b6⟩ hK
  have hh' := Heap.set_same h id (.arr 1 [[I Lk]])
  have hle := Rt.nodesL_take_le us k
  by_cases hlt : k < us.length
  · have hlt' : (k : Int) < us.length := by omega
    simp [hlt', hlt, w_loadV_op hh']
    have hn1 : (Rt.mk a us).nodes = Rt.nodesL us + 1 := by simp [Rt.nodes]
    by_cases hneg : Lk < 0
    · simp [hneg]
      refine retA_of (hq 0 Lk ⟨b1, by omega, by omega, by omega, fun h => ?_, fun _ => by omega⟩)
      exfalso; by_cases hc : (Rt.nodesL (us.take k) : Int) ≤ L - 1
      · obtain ⟨e1, e2⟩ := b5 hc; omega
      · omega
    · simp [hneg]
      refine callS_of ?_
      rw [sr_eta]
      refine ih us[k] (List.getElem_mem hlt) hh' (by omega) (by omega) fun d' L' hM => ?_
      have hl := Rt.length_le (us.take k)
      rw [List.length_take, Nat.min_eq_left hk] at hl
      have hc : (Rt.nodesL (us.take k) : Int) ≤ L - 1 := by
        by_cases hc : (Rt.nodesL (us.take k) : Int) ≤ L - 1
        · exact hc
        · have := b6 (by omega); omega
      have hw2 : IntKind.i64.wrap ((k : Int) + 1) = (k + 1 : Nat) := wrap_i64 (by omega) (by omega)
      obtain ⟨e1, e2⟩ := b5 hc
      obtain ⟨m1, m2, m3, m4, m5, m6⟩ := hM
      rw [Heap.set_set, w_max, hw2]
      refine hK hlt _ _ ⟨_, L', rfl, rfl, m1, by omega, by split <;> omega, by split <;> omega, fun hc2 => ?_, fun hc2 => ?_⟩
      · rw [Rt.nodesL_take_succ hlt] at hc2 ⊢
        rw [Rt.depthL_take_succ hlt]
        obtain ⟨f1, f2⟩ := m5 (by omega)
        exact ⟨by omega, by split <;> omega⟩
      · rw [Rt.nodesL_take_succ hlt] at hc2
        exact m6 (by omega)
  · have hlt' : ¬ ((k : Int) < us.length) := by omega
    have hw3 : IntKind.i64.wrap (d + 1) = d + 1 := wrap_i64 (by omega) (by omega)
    have hkn : k = us.length := by omega
    simp [hlt', hw3]
    rw [hkn, List.take_length] at b5 b6
    refine retA_of (hq (d + 1) Lk ⟨b1, by omega, by omega, by omega, fun h => ?_, fun h => ?_⟩)
    · simp only [Rt.nodes] at h ⊢
      obtain ⟨e1, e2⟩ := b5 (by omega)
      exact ⟨by omega, by simp [Rt.depth, e2]⟩
    · simp only [Rt.nodes] at h
      exact b6 (by omega)

theorem term_Size_c (t : Tm) {h : Heap} {Q : AV → Heap → Prop} (hq : Q (.tup [I (szN 100000 t), I (szD 100000 t)]) h) : ACalls prog n_term_Size [tm t] h Q := by
  refine term_Size_call ?_
  unfold term_Size tm
  simp [tmC_e]
  intro id hid
  have hh := Heap.set_same h id (.arr 1 [[I 0]])
  simp [w_store hh, splice]
  refine callS_of ?_
  rw [tm_eta]
  refine term_measure_c t (Heap.set_same h id _) (by omega) (by omega) fun d L' ⟨m1, m2, m3, m4, m5, m6⟩ => ?_
  have hh2 : ∀ n, (h.set id n) id = some n := fun n => Heap.set_same h id n
  have hdrop : ∀ (v : AV) n, Q v h → retA v (h.set id n) Q := fun v n hv => ⟨[v], h, HRef.drop hid, rfl, fun _ _ => .refl, hv⟩
  simp only [Heap.set_set]
  simp [w_loadV_op (hh2 _)]
  by_cases hN : t.nodes ≤ 100000
  · obtain ⟨e1, e2⟩ := m5 (by omega)
    have : ¬ L' < 0 := by omega
    have hw : IntKind.i64.wrap (100000 - L') = 100000 - L' := wrap_i64 (by omega) (by omega)
    simp [this, hw]
    refine hdrop _ _ ?_
    have e3 : 100000 - L' = (szN 100000 t : Int) := by simp [szN, hN]; omega
    have e4 : d = szD 100000 t := by simp [szD, hN]; omega
    rw [e3, e4]; exact hq
  · have := m6 (by omega)
    have : L' < 0 := by omega
    simp [this]
    refine hdrop _ _ ?_
    have e3 : (100001 : Int) = szN 100000 t := by simp [szN, hN]
    have e4 : (0 : Int) = szD 100000 t := by simp [szD, hN]
    rw [e3, e4]; exact hq
/-- The reference's count: cut off behind what is asked. -/
theorem vref02_Nodes_c (t : Tm) : ∀ {h : Heap} {Q : AV → Heap → Prop} {m : Nat}, m ≤ 1000000000 → Q (I (min t.nodes (m + 1) : Nat)) h → ACalls prog n_vref02_Nodes [tm t, I m] h Q := by
  refine Rt.ind (P := fun t => ∀ {h : Heap} {Q : AV → Heap → Prop} {m : Nat}, m ≤ 1000000000 → Q (I (min t.nodes (m + 1) : Nat)) h → ACalls prog n_vref02_Nodes [tm t, I m] h Q) (fun a us ih => ?_) t
  intro h Q m hm hq
  refine vref02_Nodes_call ?_
  unfold vref02_Nodes tm
  simp [tmC]
  refine loop_up us.length (fun k σ h' => σ = [I (min (Rt.nodesL (us.take k) + 1) (m + 1) : Nat), I k] ∧ h' = h ∧ k ≤ m + 1) ⟨by simp [Rt.nodesL], rfl, by omega⟩ (fun k σ' h' ⟨e, _⟩ => by rw [e]; rfl) ?_
  rintro k σ' h' K hk ⟨rfl, rfl, hkm⟩ hK
  have hle := Rt.nodesL_take_le us k
  have hnod : (Rt.mk a us).nodes = Rt.nodesL us + 1 := by simp [Rt.nodes]
  by_cases hlt : k < us.length
  · have hlt' : (k : Int) < us.length := by omega
    simp only [g_0, g_1, w_lss, hlt', decide_true, w_brA, if_true, w_leq]
    by_cases hc : Rt.nodesL (us.take k) + 1 ≤ m
    · have emin : min (Rt.nodesL (us.take k) + 1) (m + 1) = Rt.nodesL (us.take k) + 1 := by omega
      have hc2 : (Rt.nodesL (us.take k) : Int) + 1 ≤ m := by omega
      have hl := Rt.length_le (us.take k)
      rw [List.length_take, Nat.min_eq_left hk] at hl
      rw [emin]
      have hw' : IntKind.i64.wrap ((m : Int) - ((Rt.nodesL (us.take k) : Int) + 1)) = ((m - (Rt.nodesL (us.take k) + 1) : Nat) : Int) := by rw [wrap_i64 (by omega) (by omega)]; omega
      simp [hc2, hlt, hw']
      refine callS_of ?_
      first | rw [tm_eta] | rw [show (.agg [tmC us[k]] : AV) = tm us[k] from rfl]
      refine ih us[k] (List.getElem_mem hlt) (by omega) ?_
      have hs := Rt.nodesL_take_succ hlt
      have hn := Rt.nodes_pos us[k]
      have e1 : IntKind.i64.wrap ((Rt.nodesL (us.take k) : Int) + 1 + (min us[k].nodes (m - (Rt.nodesL (us.take k) + 1) + 1) : Nat)) = ((min (Rt.nodesL (us.take (k + 1)) + 1) (m + 1) : Nat) : Int) := by
        rw [wrap_i64 (by omega) (by omega), hs]; omega
      have e2 := wrap_k (k := k) (by omega)
      simp only [w_add, e1, e2]
      exact hK hlt _ _ ⟨rfl, rfl, by omega⟩
    · have hc' : ¬ ((min (Rt.nodesL (us.take k) + 1) (m + 1) : Nat) : Int) ≤ m := by omega
      simp only [hc', decide_false, Bool.false_eq_true, if_false]
      refine retA_of ?_
      have : min (Rt.nodesL (us.take k) + 1) (m + 1) = min (Rt.mk a us).nodes (m + 1) := by omega
      rw [this]; exact hq
  · have hlt' : ¬ ((k : Int) < us.length) := by omega
    have hkn : k = us.length := by omega
    simp only [g_0, g_1, w_lss, hlt', decide_false, w_brA, Bool.false_eq_true, if_false]
    refine retA_of ?_
    rw [hkn, List.take_length, ← hnod]; exact hq
theorem vref02_Depth_c (t : Tm) : ∀ {h : Heap} {Q : AV → Heap → Prop}, t.nodes ≤ 1000000000 → Q (I t.depth) h → ACalls prog n_vref02_Depth [tm t] h Q := by
  refine Rt.ind (P := fun t => ∀ {h : Heap} {Q : AV → Heap → Prop}, t.nodes ≤ 1000000000 → Q (I t.depth) h → ACalls prog n_vref02_Depth [tm t] h Q) (fun a us ih => ?_) t
  intro h Q hm hq
  refine vref02_Depth_call ?_
  unfold vref02_Depth tm
  simp [tmC]
  simp only [Rt.nodes] at hm
  have hlen := Rt.length_le us
  have hdl := Rt.depthL_le us fun t _ => Rt.depth_le t
  refine loop_up us.length (fun k σ h' => σ = [I (Rt.depthL (us.take k)), I k] ∧ h' = h) ⟨by simp [Rt.depthL], rfl⟩ (fun k σ' h' ⟨e, _⟩ => by rw [e]; rfl) ?_
  rintro k σ' h' K hk ⟨rfl, rfl⟩ hK
  by_cases hlt : k < us.length
  · have hlt' : (k : Int) < us.length := by omega
    simp [hlt', hlt]
    refine callS_of ?_
    first | rw [tm_eta] | rw [show (.agg [tmC us[k]] : AV) = tm us[k] from rfl]
    have hnk : us[k].nodes ≤ Rt.nodesL us := by
      have h1 := Rt.nodesL_take_succ hlt
      have h2 := Rt.nodesL_take_le us (k + 1)
      omega
    refine ih us[k] (List.getElem_mem hlt) (by omega) ?_
    have e2 := wrap_k (k := k) (by omega)
    simp only [w_max, e2]
    refine hK hlt _ _ ⟨?_, rfl⟩
    rw [Rt.depthL_take_succ hlt]
    congr 3
    split <;> omega
  · have hlt' : ¬ ((k : Int) < us.length) := by omega
    have hkn : k = us.length := by omega
    subst hkn
    have hw : IntKind.i64.wrap ((Rt.depthL us : Int) + 1) = Rt.depthL us + 1 := wrap_i64 (by omega) (by omega)
    simp [hw]
    refine retA_of ?_
    simpa [Rt.depth] using hq

theorem sorts_Size_c (t : Srt) {h : Heap} {Q : AV → Heap → Prop} (hq : Q (.tup [I (szN 60 t), I (szD 60 t)]) h) : ACalls prog n_sorts_Size [sr t] h Q := by
  refine sorts_Size_call ?_
  unfold sorts_Size sr
  simp [srC_e]
  intro id hid
  have hh := Heap.set_same h id (.arr 1 [[I 0]])
  simp [w_store hh, splice]
  refine callS_of ?_
  rw [sr_eta]
  refine sorts_measure_c t (Heap.set_same h id _) (by omega) (by omega) fun d L' ⟨m1, m2, m3, m4, m5, m6⟩ => ?_
  have hh2 : ∀ n, (h.set id n) id = some n := fun n => Heap.set_same h id n
  have hdrop : ∀ (v : AV) n, Q v h → retA v (h.set id n) Q := fun v n hv => ⟨[v], h, HRef.drop hid, rfl, fun _ _ => .refl, hv⟩
  simp only [Heap.set_set]
  simp [w_loadV_op (hh2 _)]
  by_cases hN : t.nodes ≤ 60
  · obtain ⟨e1, e2⟩ := m5 (by omega)
    have : ¬ L' < 0 := by omega
    have hw : IntKind.i64.wrap (60 - L') = 60 - L' := wrap_i64 (by omega) (by omega)
    simp [this, hw]
    refine hdrop _ _ ?_
    have e3 : 60 - L' = (szN 60 t : Int) := by simp [szN, hN]; omega
    have e4 : d = szD 60 t := by simp [szD, hN]; omega
    rw [e3, e4]; exact hq
  · have := m6 (by omega)
    have : L' < 0 := by omega
    simp [this]
    refine hdrop _ _ ?_
    have e3 : (61 : Int) = szN 60 t := by simp [szN, hN]
    have e4 : (0 : Int) = szD 60 t := by simp [szD, hN]
    rw [e3, e4]; exact hq
/-- The reference's count: cut off behind what is asked. -/
theorem vref01_Nodes_c (t : Srt) : ∀ {h : Heap} {Q : AV → Heap → Prop} {m : Nat}, m ≤ 1000000000 → Q (I (min t.nodes (m + 1) : Nat)) h → ACalls prog n_vref01_Nodes [sr t, I m] h Q := by
  refine Rt.ind (P := fun t => ∀ {h : Heap} {Q : AV → Heap → Prop} {m : Nat}, m ≤ 1000000000 → Q (I (min t.nodes (m + 1) : Nat)) h → ACalls prog n_vref01_Nodes [sr t, I m] h Q) (fun a us ih => ?_) t
  intro h Q m hm hq
  refine vref01_Nodes_call ?_
  unfold vref01_Nodes sr
  simp [srC]
  refine loop_up us.length (fun k σ h' => σ = [I (min (Rt.nodesL (us.take k) + 1) (m + 1) : Nat), I k] ∧ h' = h ∧ k ≤ m + 1) ⟨by simp [Rt.nodesL], rfl, by omega⟩ (fun k σ' h' ⟨e, _⟩ => by rw [e]; rfl) ?_
  rintro k σ' h' K hk ⟨rfl, rfl, hkm⟩ hK
  have hle := Rt.nodesL_take_le us k
  have hnod : (Rt.mk a us).nodes = Rt.nodesL us + 1 := by simp [Rt.nodes]
  by_cases hlt : k < us.length
  · have hlt' : (k : Int) < us.length := by omega
    simp only [g_0, g_1, w_lss, hlt', decide_true, w_brA, if_true, w_leq]
    by_cases hc : Rt.nodesL (us.take k) + 1 ≤ m
    · have emin : min (Rt.nodesL (us.take k) + 1) (m + 1) = Rt.nodesL (us.take k) + 1 := by omega
      have hc2 : (Rt.nodesL (us.take k) : Int) + 1 ≤ m := by omega
      have hl := Rt.length_le (us.take k)
      rw [List.length_take, Nat.min_eq_left hk] at hl
      rw [emin]
      have hw' : IntKind.i64.wrap ((m : Int) - ((Rt.nodesL (us.take k) : Int) + 1)) = ((m - (Rt.nodesL (us.take k) + 1) : Nat) : Int) := by rw [wrap_i64 (by omega) (by omega)]; omega
      simp [hc2, hlt, hw']
      refine callS_of ?_
      first | rw [sr_eta] | rw [show (.agg [srC us[k]] : AV) = sr us[k] from rfl]
      refine ih us[k] (List.getElem_mem hlt) (by omega) ?_
      have hs := Rt.nodesL_take_succ hlt
      have hn := Rt.nodes_pos us[k]
      have e1 : IntKind.i64.wrap ((Rt.nodesL (us.take k) : Int) + 1 + (min us[k].nodes (m - (Rt.nodesL (us.take k) + 1) + 1) : Nat)) = ((min (Rt.nodesL (us.take (k + 1)) + 1) (m + 1) : Nat) : Int) := by
        rw [wrap_i64 (by omega) (by omega), hs]; omega
      have e2 := wrap_k (k := k) (by omega)
      simp only [w_add, e1, e2]
      exact hK hlt _ _ ⟨rfl, rfl, by omega⟩
    · have hc' : ¬ ((min (Rt.nodesL (us.take k) + 1) (m + 1) : Nat) : Int) ≤ m := by omega
      simp only [hc', decide_false, Bool.false_eq_true, if_false]
      refine retA_of ?_
      have : min (Rt.nodesL (us.take k) + 1) (m + 1) = min (Rt.mk a us).nodes (m + 1) := by omega
      rw [this]; exact hq
  · have hlt' : ¬ ((k : Int) < us.length) := by omega
    have hkn : k = us.length := by omega
    simp only [g_0, g_1, w_lss, hlt', decide_false, w_brA, Bool.false_eq_true, if_false]
    refine retA_of ?_
    rw [hkn, List.take_length, ← hnod]; exact hq
theorem vref01_depth_c (t : Srt) : ∀ {h : Heap} {Q : AV → Heap → Prop}, t.nodes ≤ 1000000000 → Q (I t.depth) h → ACalls prog n_vref01_depth [sr t] h Q := by
  refine Rt.ind (P := fun t => ∀ {h : Heap} {Q : AV → Heap → Prop}, t.nodes ≤ 1000000000 → Q (I t.depth) h → ACalls prog n_vref01_depth [sr t] h Q) (fun a us ih => ?_) t
  intro h Q hm hq
  refine vref01_depth_call ?_
  unfold vref01_depth sr
  simp [srC]
  simp only [Rt.nodes] at hm
  have hlen := Rt.length_le us
  have hdl := Rt.depthL_le us fun t _ => Rt.depth_le t
  refine loop_up us.length (fun k σ h' => σ = [I (Rt.depthL (us.take k)), I k] ∧ h' = h) ⟨by simp [Rt.depthL], rfl⟩ (fun k σ' h' ⟨e, _⟩ => by rw [e]; rfl) ?_
  rintro k σ' h' K hk ⟨rfl, rfl⟩ hK
  by_cases hlt : k < us.length
  · have hlt' : (k : Int) < us.length := by omega
    simp [hlt', hlt]
    refine callS_of ?_
    first | rw [sr_eta] | rw [show (.agg [srC us[k]] : AV) = sr us[k] from rfl]
    have hnk : us[k].nodes ≤ Rt.nodesL us := by
      have h1 := Rt.nodesL_take_succ hlt
      have h2 := Rt.nodesL_take_le us (k + 1)
      omega
    refine ih us[k] (List.getElem_mem hlt) (by omega) ?_
    have e2 := wrap_k (k := k) (by omega)
    simp only [w_max, e2]
    refine hK hlt _ _ ⟨?_, rfl⟩
    rw [Rt.depthL_take_succ hlt]
    congr 3
    split <;> omega
  · have hlt' : ¬ ((k : Int) < us.length) := by omega
    have hkn : k = us.length := by omega
    subst hkn
    have hw : IntKind.i64.wrap ((Rt.depthL us : Int) + 1) = Rt.depthL us + 1 := wrap_i64 (by omega) (by omega)
    simp [hw]
    refine retA_of ?_
    simpa [Rt.depth] using hq
end Am
