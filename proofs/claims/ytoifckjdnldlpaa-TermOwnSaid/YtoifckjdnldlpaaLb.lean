/- Contracts: valid sorts, names, symbols, places. -/
import Derived.Test.YtoifckjdnldlpaaLa
set_option linter.unusedVariables false
set_option linter.unusedSimpArgs false
namespace Am
open Go Go.Proofs.Try
/-! ### Sorts -/
mutual
def few : Srt → Bool
  | .mk _ us => fewL us && decide (us.length ≤ 8)
def fewL : List Srt → Bool
  | [] => true
  | s :: ss => few s && fewL ss
end
def okS (s : Srt) : Bool := decide (s.nodes ≤ 60) && decide (s.depth ≤ 30) && few s
theorem fewL_drop {us : List Srt} {k : Nat} (hk : k < us.length) : fewL (us.drop k) = (few us[k] && fewL (us.drop (k + 1))) := by
  rw [List.drop_eq_getElem_cons hk]; simp [fewL]
theorem kid_nodes {α : Type} {us : List (Rt α)} {k : Nat} (hk : k < us.length) : us[k].nodes ≤ Rt.nodesL us := by
  have h1 := Rt.nodesL_take_succ hk
  have h2 := Rt.nodesL_take_le us (k + 1)
  omega
theorem vref01_few_c (t : Srt) : ∀ {h : Heap} {Q : AV → Heap → Prop}, t.nodes ≤ 1000000000 → Q (B (few t)) h → ACalls prog n_vref01_few [sr t] h Q := by
  refine Rt.ind (P := fun t => ∀ {h : Heap} {Q : AV → Heap → Prop}, t.nodes ≤ 1000000000 → Q (B (few t)) h → ACalls prog n_vref01_few [sr t] h Q) (fun a us ih => ?_) t
  intro h Q hm hq
  refine vref01_few_call ?_
  unfold vref01_few sr
  simp only [Rt.nodes] at hm
  have hlen := Rt.length_le us
  simp [srC]
  refine loop_ix us.length (fun k => few (.mk a us) = (fewL (us.drop k) && decide (us.length ≤ 8))) (by simp [few]) fun k hk hi K hK => ?_
  by_cases hlt : k < us.length
  · have hlt' : (k : Int) < us.length := by omega
    have hn := kid_nodes hlt
    simp [hlt', hlt]
    refine callS_of ?_
    rw [sr_eta]
    refine ih us[k] (List.getElem_mem hlt) (by omega) ?_
    rw [fewL_drop hlt] at hi
    cases hf : few us[k] with
    | false =>
      rw [hf] at hi
      simp
      refine retA_of ?_
      rw [hi] at hq; exact hq
    | true =>
      rw [hf] at hi
      simp [wrap_k (k := k) (by omega)]
      exact hK hlt (by rw [hi]; simp)
  · have hkn : k = us.length := by omega
    subst hkn
    simp
    refine retA_of ?_
    rw [hi, List.drop_length] at hq
    have e : decide ((us.length : Int) ≤ 8) = decide (us.length ≤ 8) := by rw [decide_eq_decide]; omega
    rw [e]; exact hq
theorem sorts_Check_1_c (t : Srt) {h : Heap} {Q : AV → Heap → Prop} (hq : Q (B (decide (t.kids.length ≤ 8))) h) : ACalls prog n_sorts_Check_1 [sr t] h Q := by
  refine sorts_Check_1_call ?_
  unfold sorts_Check_1 sr
  rw [srC_eq]
  simp
  refine retA_of ?_
  have : decide ((t.kids.length : Int) ≤ 8) = decide (t.kids.length ≤ 8) := by rw [decide_eq_decide]; omega
  rw [this]; exact hq
theorem sorts_all_c (t : Srt) : ∀ {h : Heap} {Q : AV → Heap → Prop}, t.nodes ≤ 1000000000 → Q (B (few t)) h → ACalls prog n_sorts_all [sr t, .fn 146 []] h Q := by
  refine Rt.ind (P := fun t => ∀ {h : Heap} {Q : AV → Heap → Prop}, t.nodes ≤ 1000000000 → Q (B (few t)) h → ACalls prog n_sorts_all [sr t, .fn 146 []] h Q) (fun a us ih => ?_) t
  intro h Q hm hq
  refine sorts_all_call ?_
  unfold sorts_all sr
  simp only [Rt.nodes] at hm
  have hlen := Rt.length_le us
  simp [srC]
  refine loop_ix us.length (fun k => few (.mk a us) = (fewL (us.drop k) && decide (us.length ≤ 8))) (by simp [few]) fun k hk hi K hK => ?_
  by_cases hlt : k < us.length
  · have hlt' : (k : Int) < us.length := by omega
    have hn := kid_nodes hlt
    simp [hlt', hlt]
    refine callS_of ?_
    rw [sr_eta]
    refine ih us[k] (List.getElem_mem hlt) (by omega) ?_
    rw [fewL_drop hlt] at hi
    cases hf : few us[k] with
    | false =>
      rw [hf] at hi
      simp
      refine retA_of ?_
      rw [hi] at hq; exact hq
    | true =>
      rw [hf] at hi
      simp [wrap_k (k := k) (by omega)]
      exact hK hlt (by rw [hi]; simp)
  · have hkn : k = us.length := by omega
    subst hkn
    simp
    refine callS_of ?_
    have e : (.agg [.rs 1 (srCs us)] : AV) = sr (.mk a us) := rfl
    rw [e]
    refine sorts_Check_1_c _ (retA_of ?_)
    rw [hi, List.drop_length] at hq
    exact hq
theorem sorts_Check_c (t : Srt) {h : Heap} {Q : AV → Heap → Prop} (hq : Q (I (if okS t then 0 else 6)) h) : ACalls prog n_sorts_Check [sr t] h Q := by
  refine sorts_Check_call ?_
  unfold sorts_Check sr
  simp
  refine callS_of ?_
  rw [sr_eta]
  refine sorts_Size_c t ?_
  simp [szN, szD]
  unfold okS at hq
  by_cases h1 : t.nodes ≤ 60
  · have h1' : ¬ (60 : Int) < t.nodes := by omega
    simp [h1, h1']
    by_cases h2 : t.depth ≤ 30
    · have h2' : ¬ (30 : Int) < t.depth := by omega
      simp [h2']
      refine callS_of (sorts_all_c t (by omega) ?_)
      cases hf : few t <;> (simp; refine retA_of ?_; simpa [h1, h2, hf] using hq)
    · have h2' : (30 : Int) < t.depth := by omega
      simp [h2']
      refine retA_of ?_
      simpa [h1, h2] using hq
  · simp [h1]
    refine retA_of ?_
    simpa [h1] using hq
theorem vref01_Is_c (t : Srt) {h : Heap} {Q : AV → Heap → Prop} (hq : Q (B (okS t)) h) : ACalls prog n_vref01_Is [sr t] h Q := by
  refine vref01_Is_call ?_
  unfold vref01_Is sr
  simp
  refine callS_of ?_
  rw [sr_eta]
  refine vref01_Nodes_c t (m := 60) (by omega) ?_
  unfold okS at hq
  by_cases h1 : t.nodes ≤ 60
  · have h1' : ((min t.nodes (60 + 1) : Nat) : Int) ≤ 60 := by omega
    simp only [w_leq, h1', decide_true, w_brA, if_true]
    refine callS_of ?_
    refine vref01_depth_c t (by omega) ?_
    by_cases h2 : t.depth ≤ 30
    · have h2' : (t.depth : Int) ≤ 30 := by omega
      simp [h2']
      refine callS_of (vref01_few_c t (by omega) (retA_of ?_))
      simpa [h1, h2] using hq
    · have h2' : ¬ (t.depth : Int) ≤ 30 := by omega
      simp [h2']
      refine retA_of ?_
      simpa [h1, h2] using hq
  · have h1' : ¬ ((min t.nodes (60 + 1) : Nat) : Int) ≤ 60 := by omega
    simp only [w_leq, h1', decide_false, w_brA, Bool.false_eq_true, if_false]
    refine retA_of ?_
    simpa [h1] using hq
/-- In a list that a callee's test runs over. -/
theorem IndexFunc_sr {cl : Nat} {f : Srt → Bool} (l : List Srt) {h : Heap} {Q : AV → Heap → Prop} (hf : ∀ s, s ∈ l → ∀ {Q : AV → Heap → Prop}, Q (B (f s)) h → ACalls prog cl [sr s] h Q) (hl : l.length ≤ 4611686018427387904)
    (hq : ∀ r : Int, (0 ≤ r ↔ l.any f = true) → Q (I r) h) : ACalls prog n_slices_IndexFunc_api_Sort_api_Sort [.rs 1 (srCs l), .fn cl []] h Q := by
  refine slices_IndexFunc_api_Sort_api_Sort_call ?_
  unfold slices_IndexFunc_api_Sort_api_Sort
  simp
  refine loop_ix l.length (fun k => l.any f = (l.drop k).any f) (by simp) fun k hk hi K hK => ?_
  by_cases hlt : k < l.length
  · have hlt' : (k : Int) < l.length := by omega
    simp [hlt', hlt]
    refine callS_of ?_
    rw [sr_eta]
    refine hf _ (List.getElem_mem hlt) ?_
    rw [List.drop_eq_getElem_cons hlt, List.any_cons] at hi
    cases hf : f l[k] with
    | true =>
      rw [hf] at hi
      simp
      exact retA_of (hq k (by rw [hi]; simp))
    | false =>
      rw [hf] at hi
      simp [wrap_k (k := k) (by omega)]
      exact hK hlt (by rw [hi]; simp)
  · have hkn : k = l.length := by omega
    subst hkn
    simp
    exact retA_of (hq (-1) (by rw [hi]; simp))
theorem ContainsFunc_sr {cl : Nat} {f : Srt → Bool} (l : List Srt) {h : Heap} {Q : AV → Heap → Prop} (hf : ∀ s, s ∈ l → ∀ {Q : AV → Heap → Prop}, Q (B (f s)) h → ACalls prog cl [sr s] h Q) (hl : l.length ≤ 4611686018427387904)
    (hq : Q (B (l.any f)) h) : ACalls prog n_slices_ContainsFunc_api_Sort_api_Sort [.rs 1 (srCs l), .fn cl []] h Q := by
  refine slices_ContainsFunc_api_Sort_api_Sort_call ?_
  unfold slices_ContainsFunc_api_Sort_api_Sort
  refine callS_of (IndexFunc_sr l hf hl fun r hr => ?_)
  simp
  refine retA_of ?_
  have : decide (0 ≤ r) = l.any f := by rw [Bool.eq_iff_iff]; simp [hr]
  rw [this]; exact hq
theorem term_Check_1_c (t : Srt) {h : Heap} {Q : AV → Heap → Prop} (hq : Q (B (!okS t)) h) : ACalls prog n_term_Check_1 [sr t] h Q := by
  refine term_Check_1_call ?_
  unfold term_Check_1 sr
  simp
  refine callS_of ?_
  rw [sr_eta]
  refine sorts_Check_c t ?_
  cases hs : okS t <;> (simp; refine retA_of ?_; rw [hs] at hq; simpa using hq)
/-! ### Names -/
def okc (c : Nat) : Bool := (decide (97 ≤ c) && decide (c ≤ 122)) || (decide (48 ≤ c) && decide (c ≤ 57)) || decide (c = 95)
def nameB (s : ByteArray) : Bool := decide (1 ≤ s.size) && decide (s.size ≤ 24) && decide (97 ≤ (s.data.toList.getD 0 0).toNat) && decide ((s.data.toList.getD 0 0).toNat ≤ 122) && s.data.toList.all fun c => okc c.toNat
theorem sz_data (s : ByteArray) : s.data.toList.length = s.size := by rw [Array.length_toList]; rfl
theorem name_step {s : ByteArray} {k : Nat} (hk : k < s.data.toList.length) : (s.data.toList.drop k).all (fun c => okc c.toNat) = (okc (s.data.toList.getD k 0).toNat && (s.data.toList.drop (k + 1)).all fun c => okc c.toNat) := by
  rw [List.drop_eq_getElem_cons hk, List.all_cons]
  simp only [List.getD_eq_getElem?_getD, List.getElem?_eq_getElem hk, Option.getD_some]
set_option maxRecDepth 20000 in
theorem term_Name_c (s : ByteArray) {h : Heap} {Q : AV → Heap → Prop} (hq : Q (B (nameB s)) h) : ACalls prog n_term_Name [S s] h Q := by
  refine term_Name_call ?_
  unfold term_Name
  have hz := sz_data s
  unfold nameB at hq
  simp only [w_lenS, w_eql, w_brA, decide_eq_true_eq, w_gtr, w_str]
  split
  · rename_i h0; exact retA_of (by rw [show decide (1 ≤ s.size) = false from decide_eq_false (by omega)] at hq; exact hq)
  split
  · rename_i h0; exact retA_of (by rw [show decide (s.size ≤ 24) = false from decide_eq_false (by omega), Bool.and_false] at hq; exact hq)
  refine ⟨by omega, by omega, ?_⟩
  try simp only [w_lss, w_brA, decide_eq_true_eq, Int.toNat_zero]
  split
  · rename_i h0; exact retA_of (by rw [show decide (97 ≤ (s.data.toList.getD 0 0).toNat) = false from decide_eq_false (by omega), Bool.and_false] at hq; exact hq)
  refine ⟨by omega, by omega, ?_⟩
  try simp only [w_gtr, w_brA, decide_eq_true_eq, Int.toNat_zero]
  split
  · rename_i h0; exact retA_of (by rw [show decide ((s.data.toList.getD 0 0).toNat ≤ 122) = false from decide_eq_false (by omega), Bool.and_false] at hq; exact hq)
  rename_i c1 c2 c3 c4
  have hq' : Q (B (s.data.toList.all fun c => okc c.toNat)) h := by
    rw [show decide (1 ≤ s.size) = true from decide_eq_true (by omega), show decide (s.size ≤ 24) = true from decide_eq_true (by omega), show decide (97 ≤ (s.data.toList.getD 0 0).toNat) = true from decide_eq_true (by omega), show decide ((s.data.toList.getD 0 0).toNat ≤ 122) = true from decide_eq_true (by omega)] at hq
    exact hq
  refine loop_ix s.size (fun k => (s.data.toList.all fun c => okc c.toNat) = (s.data.toList.drop k).all fun c => okc c.toNat) (by simp) fun k hk hi K hK => ?_
  by_cases hlt : k < s.size
  · have hlt' : (k : Int) < s.size := by omega
    rw [name_step (by omega)] at hi
    have hK' : okc (s.data.toList.getD k 0).toNat = true → K [I ((k + 1 : Nat) : Int)] h := fun e => hK hlt (by rw [hi, e]; simp)
    have hR : okc (s.data.toList.getD k 0).toNat = false → retA (B false) h Q := fun e => retA_of (by rw [hi, e] at hq'; simpa using hq')
    have hk0 : (0 : Int) ≤ k := by omega
    simp only [g_0, w_lss, hlt', decide_true, w_brA, if_true, w_str, wrap_k (k := k) (by omega), w_add, w_gtr, w_neq, decide_eq_true_eq, Bool.not_eq_true', decide_eq_false_iff_not, Int.toNat_natCast, hk0, true_and]
    unfold okc at hK' hR
    generalize (s.data.toList.getD k 0).toNat = c at *
    repeat' split
    all_goals first
      | exact hK' (by simp; omega)
      | exact hR (by simp; omega)
  · have hkn : k = s.size := by omega
    subst hkn
    simp
    exact retA_of (by rw [hi, ← hz, List.drop_length] at hq'; simpa using hq')
theorem vref02_Name_c (s : ByteArray) {h : Heap} {Q : AV → Heap → Prop} (hq : Q (B (nameB s)) h) : ACalls prog n_vref02_Name [S s] h Q := by
  refine vref02_Name_call ?_
  unfold vref02_Name
  have hz := sz_data s
  unfold nameB at hq
  simp only [w_lenS, w_lss, w_brA, decide_eq_true_eq, w_gtr, w_str]
  split
  · rename_i h0; exact retA_of (by rw [show decide (1 ≤ s.size) = false from decide_eq_false (by omega)] at hq; exact hq)
  split
  · rename_i h0; exact retA_of (by rw [show decide (s.size ≤ 24) = false from decide_eq_false (by omega), Bool.and_false] at hq; exact hq)
  refine ⟨by omega, by omega, ?_⟩
  try simp only [w_lss, w_brA, decide_eq_true_eq, Int.toNat_zero]
  split
  · rename_i h0; exact retA_of (by rw [show decide (97 ≤ (s.data.toList.getD 0 0).toNat) = false from decide_eq_false (by omega), Bool.and_false] at hq; exact hq)
  refine ⟨by omega, by omega, ?_⟩
  try simp only [w_gtr, w_brA, decide_eq_true_eq, Int.toNat_zero]
  split
  · rename_i h0; exact retA_of (by rw [show decide ((s.data.toList.getD 0 0).toNat ≤ 122) = false from decide_eq_false (by omega), Bool.and_false] at hq; exact hq)
  rename_i c1 c2 c3 c4
  have hq' : Q (B (s.data.toList.all fun c => okc c.toNat)) h := by
    rw [show decide (1 ≤ s.size) = true from decide_eq_true (by omega), show decide (s.size ≤ 24) = true from decide_eq_true (by omega), show decide (97 ≤ (s.data.toList.getD 0 0).toNat) = true from decide_eq_true (by omega), show decide ((s.data.toList.getD 0 0).toNat ≤ 122) = true from decide_eq_true (by omega)] at hq
    exact hq
  refine loop_ix s.size (fun k => (s.data.toList.all fun c => okc c.toNat) = (s.data.toList.drop k).all fun c => okc c.toNat) (by simp) fun k hk hi K hK => ?_
  by_cases hlt : k < s.size
  · have hlt' : (k : Int) < s.size := by omega
    rw [name_step (by omega)] at hi
    have hK' : okc (s.data.toList.getD k 0).toNat = true → K [I ((k + 1 : Nat) : Int)] h := fun e => hK hlt (by rw [hi, e]; simp)
    have hR : okc (s.data.toList.getD k 0).toNat = false → retA (B false) h Q := fun e => retA_of (by rw [hi, e] at hq'; simpa using hq')
    have hk0 : (0 : Int) ≤ k := by omega
    simp only [g_0, w_lss, hlt', decide_true, w_brA, if_true, w_str, wrap_k (k := k) (by omega), w_add, w_gtr, w_neq, decide_eq_true_eq, Bool.not_eq_true', decide_eq_false_iff_not, Int.toNat_natCast, w_lenS, hk0, true_and]
    unfold okc at hK' hR
    generalize (s.data.toList.getD k 0).toNat = c at *
    repeat' split
    all_goals first
      | exact hK' (by simp; omega)
      | exact hR (by simp; omega)
  · have hkn : k = s.size := by omega
    subst hkn
    simp
    exact retA_of (by rw [hi, ← hz, List.drop_length] at hq'; simpa using hq')
end Am
