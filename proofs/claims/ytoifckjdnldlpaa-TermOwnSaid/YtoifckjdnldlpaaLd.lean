/- Contracts: equality, copies. -/
import Derived.Test.YtoifckjdnldlpaaLc
set_option linter.unusedVariables false
set_option linter.unusedSimpArgs false
namespace Am
open Go Go.Proofs.Try
theorem tmCs_sz (l : List Tm) : ∀ i, i < (tmCs l).length → ((tmCs l).getD i []).length = 3 := fun i hi => by
  rw [tmCs_get (by simpa using hi)]; simp
theorem srCs_sz (l : List Srt) : ∀ i, i < (srCs l).length → ((srCs l).getD i []).length = 1 := fun i hi => by
  rw [srCs_get (by simpa using hi)]; simp
theorem tmCs_snoc {l : List Tm} {k : Nat} (hk : k < l.length) : tmCs (l.take (k + 1)) = tmCs (l.take k) ++ [tmC l[k]] := by
  rw [List.take_succ_eq_append_getElem hk, tmCs_eq, tmCs_eq, List.map_append]; rfl
theorem srCs_snoc {l : List Srt} {k : Nat} (hk : k < l.length) : srCs (l.take (k + 1)) = srCs (l.take k) ++ [[srC l[k]]] := by
  rw [List.take_succ_eq_append_getElem hk, srCs_eq, srCs_eq, List.map_append]; rfl
/-! ### Sizes -/
theorem szN_gt {α : Type} (c : Nat) (t : Rt α) : decide ((c : Int) < szN c t) = decide (c < t.nodes) := by
  unfold szN; rw [decide_eq_decide]; split <;> omega
theorem term_large_c (t : Tm) {h : Heap} {Q : AV → Heap → Prop} (hq : Q (B (decide (100000 < t.nodes))) h) : ACalls prog n_term_large [tm t] h Q := by
  refine term_large_call ?_
  unfold term_large tm
  simp
  refine callS_of ?_
  rw [tm_eta]
  refine term_Size_c t ?_
  have e := szN_gt 100000 t
  simp at e
  simp [e]
  exact retA_of (by simpa using hq)
theorem vref02_Large_c (t : Tm) {h : Heap} {Q : AV → Heap → Prop} (hq : Q (B (decide (100000 < t.nodes))) h) : ACalls prog n_vref02_Large [tm t] h Q := by
  refine vref02_Large_call ?_
  unfold vref02_Large tm
  simp
  refine callS_of ?_
  rw [tm_eta]
  refine vref02_Nodes_c t (m := 100000) (by omega) ?_
  have e : decide ((100000 : Int) < ((min t.nodes (100000 + 1) : Nat) : Int)) = decide (100000 < t.nodes) := by rw [decide_eq_decide]; omega
  rw [w_gtr, e]
  exact retA_of hq
/-! ### Equality -/
namespace Rt
variable {α : Type} [DecidableEq α]
mutual
def eqR : Rt α → Rt α → Bool
  | .mk a us, t => decide (a = t.lab) && decide (us.length = t.kids.length) && eqRL us t.kids
def eqRL : List (Rt α) → List (Rt α) → Bool
  | [], _ => true
  | u :: us, l => (match l with | [] => true | v :: vs => eqR u v && eqRL us vs)
end
theorem eqRL_iff {us : List (Rt α)} (ih : ∀ t, t ∈ us → ∀ u : Rt α, eqR t u = true ↔ t = u) : ∀ vs : List (Rt α), us.length = vs.length → (eqRL us vs = true ↔ us = vs) := by
  induction us with
  | nil => intro vs hl; cases vs with
    | nil => simp [eqRL]
    | cons _ _ => simp at hl
  | cons t us ih2 => intro vs hl; cases vs with
    | nil => simp at hl
    | cons v vs =>
      have h1 := ih t (by simp) v
      have h2 := ih2 (fun t ht => ih t (by simp [ht])) vs (by simpa using hl)
      simp [eqRL, h1, h2]
theorem eqR_iff (t : Rt α) : ∀ u, eqR t u = true ↔ t = u := by
  refine ind (P := fun t => ∀ u, eqR t u = true ↔ t = u) (fun a us ih u => ?_) t
  obtain ⟨b, vs⟩ := u
  simp only [eqR, lab, kids, Bool.and_eq_true]
  constructor
  · rintro ⟨⟨h1, h2⟩, h3⟩
    have h1 := of_decide_eq_true h1
    have h2e : us.length = vs.length := of_decide_eq_true h2
    subst h1
    rw [(eqRL_iff ih vs h2e).1 h3]
  · rintro h; cases h; exact ⟨⟨decide_eq_true rfl, decide_eq_true rfl⟩, (eqRL_iff ih us rfl).2 rfl⟩
theorem eqR_refl (t : Rt α) : eqR t t = true := (eqR_iff t t).2 rfl
theorem eqRL_drop {us vs : List (Rt α)} {k : Nat} (hk : k < us.length) (hl : k < vs.length) : eqRL (us.drop k) (vs.drop k) = (eqR us[k] vs[k] && eqRL (us.drop (k + 1)) (vs.drop (k + 1))) := by
  rw [List.drop_eq_getElem_cons hk, List.drop_eq_getElem_cons hl]; simp [eqRL]
end Rt
open Rt (eqR eqRL eqR_iff)
theorem term_same_c (a : Tm) : ∀ (b : Tm) {h : Heap} {Q : AV → Heap → Prop}, a.nodes ≤ 1000000000 → Q (B (eqR a b)) h → ACalls prog n_term_same [tm a, tm b] h Q := by
  refine Rt.ind (P := fun a => ∀ (b : Tm) {h : Heap} {Q : AV → Heap → Prop}, a.nodes ≤ 1000000000 → Q (B (eqR a b)) h → ACalls prog n_term_same [tm a, tm b] h Q) (fun a us ih => ?_) a
  intro b h Q hm hq
  obtain ⟨b, vs⟩ := b
  refine term_same_call ?_
  unfold term_same tm
  simp only [Rt.nodes] at hm
  have hlen := Rt.length_le us
  simp [tmC]
  by_cases h1 : a.1 = b.1
  case neg =>
    have : ¬ a = b := fun e => h1 (by rw [e])
    simp [h1]; exact retA_of (by simpa [eqR, Rt.lab, this] using hq)
  by_cases h2 : a.2 = b.2
  case neg =>
    have : ¬ a = b := fun e => h2 (by rw [e])
    simp [h1, h2]; exact retA_of (by simpa [eqR, Rt.lab, this] using hq)
  have hab : a = b := Prod.ext h1 h2
  simp [h1, h2]
  by_cases hl : us.length = vs.length
  · simp [hl]
    refine loop_ix us.length (fun k => eqRL us vs = eqRL (us.drop k) (vs.drop k)) (by simp) fun k hk hi K hK => ?_
    by_cases hlt : k < us.length
    · have hlv : k < vs.length := by omega
      have hlt' : (k : Int) < us.length := by omega
      have hlv' : (k : Int) < vs.length := by omega
      have hn := kid_nodes hlt
      simp [hlt', hlt, hlv, hlv']
      refine callS_of ?_
      simp only [tm_eta, sr_eta]
      refine ih us[k] (List.getElem_mem hlt) vs[k] (by omega) ?_
      rw [Rt.eqRL_drop hlt hlv] at hi
      cases he : eqR us[k] vs[k] with
      | false => rw [he] at hi; simp; exact retA_of (by simpa [eqR, Rt.lab, Rt.kids, hi] using hq)
      | true => rw [he] at hi; simp [wrap_k (k := k) (by omega)]; exact hK hlt (by rw [hi]; simp)
    · have hkn : k = us.length := by omega
      subst hkn
      have : ¬ ((us.length : Int) < vs.length) := by omega
      simp [this]
      rw [List.drop_length] at hi
      have hi2 : eqRL us vs = true := by rw [hi]; simp [eqRL]
      exact retA_of (by simpa [eqR, Rt.lab, Rt.kids, hi2, hab, hl] using hq)
  · have hl' : ¬ (us.length : Int) = vs.length := by omega
    simp [hl']
    exact retA_of (by simpa [eqR, Rt.lab, Rt.kids, hl] using hq)
theorem vref02_Equal_c (a : Tm) : ∀ (b : Tm) {h : Heap} {Q : AV → Heap → Prop}, a.nodes ≤ 1000000000 → Q (B (eqR a b)) h → ACalls prog n_vref02_Equal [tm a, tm b] h Q := by
  refine Rt.ind (P := fun a => ∀ (b : Tm) {h : Heap} {Q : AV → Heap → Prop}, a.nodes ≤ 1000000000 → Q (B (eqR a b)) h → ACalls prog n_vref02_Equal [tm a, tm b] h Q) (fun a us ih => ?_) a
  intro b h Q hm hq
  obtain ⟨b, vs⟩ := b
  refine vref02_Equal_call ?_
  unfold vref02_Equal tm
  simp only [Rt.nodes] at hm
  have hlen := Rt.length_le us
  simp [tmC]
  by_cases h1 : a.1 = b.1
  case neg =>
    have : ¬ a = b := fun e => h1 (by rw [e])
    simp [h1]; exact retA_of (by simpa [eqR, Rt.lab, this] using hq)
  by_cases h2 : a.2 = b.2
  case neg =>
    have : ¬ a = b := fun e => h2 (by rw [e])
    simp [h1, h2]; exact retA_of (by simpa [eqR, Rt.lab, this] using hq)
  have hab : a = b := Prod.ext h1 h2
  simp [h1, h2]
  by_cases hl : us.length = vs.length
  · simp [hl]
    refine loop_ix us.length (fun k => eqRL us vs = eqRL (us.drop k) (vs.drop k)) (by simp) fun k hk hi K hK => ?_
    by_cases hlt : k < us.length
    · have hlv : k < vs.length := by omega
      have hlt' : (k : Int) < us.length := by omega
      have hlv' : (k : Int) < vs.length := by omega
      have hn := kid_nodes hlt
      simp [hlt', hlt, hlv, hlv']
      refine callS_of ?_
      simp only [tm_eta, sr_eta]
      refine ih us[k] (List.getElem_mem hlt) vs[k] (by omega) ?_
      rw [Rt.eqRL_drop hlt hlv] at hi
      cases he : eqR us[k] vs[k] with
      | false => rw [he] at hi; simp; exact retA_of (by simpa [eqR, Rt.lab, Rt.kids, hi] using hq)
      | true => rw [he] at hi; simp [wrap_k (k := k) (by omega)]; exact hK hlt (by rw [hi]; simp)
    · have hkn : k = us.length := by omega
      subst hkn
      have : ¬ ((us.length : Int) < vs.length) := by omega
      simp [this]
      rw [List.drop_length] at hi
      have hi2 : eqRL us vs = true := by rw [hi]; simp [eqRL]
      exact retA_of (by simpa [eqR, Rt.lab, Rt.kids, hi2, hab, hl] using hq)
  · have hl' : ¬ (us.length : Int) = vs.length := by omega
    simp [hl']
    exact retA_of (by simpa [eqR, Rt.lab, Rt.kids, hl] using hq)
theorem sorts_same_c (a : Srt) : ∀ (b : Srt) {h : Heap} {Q : AV → Heap → Prop}, a.nodes ≤ 1000000000 → Q (B (eqR a b)) h → ACalls prog n_sorts_same [sr a, sr b] h Q := by
  refine Rt.ind (P := fun a => ∀ (b : Srt) {h : Heap} {Q : AV → Heap → Prop}, a.nodes ≤ 1000000000 → Q (B (eqR a b)) h → ACalls prog n_sorts_same [sr a, sr b] h Q) (fun a us ih => ?_) a
  intro b h Q hm hq
  obtain ⟨b, vs⟩ := b
  refine sorts_same_call ?_
  unfold sorts_same sr
  simp only [Rt.nodes] at hm
  have hlen := Rt.length_le us
  simp [srC]
  by_cases hl : us.length = vs.length
  · simp [hl]
    refine loop_ix us.length (fun k => eqRL us vs = eqRL (us.drop k) (vs.drop k)) (by simp) fun k hk hi K hK => ?_
    by_cases hlt : k < us.length
    · have hlv : k < vs.length := by omega
      have hlt' : (k : Int) < us.length := by omega
      have hlv' : (k : Int) < vs.length := by omega
      have hn := kid_nodes hlt
      simp [hlt', hlt, hlv, hlv']
      refine callS_of ?_
      simp only [tm_eta, sr_eta]
      refine ih us[k] (List.getElem_mem hlt) vs[k] (by omega) ?_
      rw [Rt.eqRL_drop hlt hlv] at hi
      cases he : eqR us[k] vs[k] with
      | false => rw [he] at hi; simp; exact retA_of (by simpa [eqR, Rt.lab, Rt.kids, hi] using hq)
      | true => rw [he] at hi; simp [wrap_k (k := k) (by omega)]; exact hK hlt (by rw [hi]; simp)
    · have hkn : k = us.length := by omega
      subst hkn
      have : ¬ ((us.length : Int) < vs.length) := by omega
      simp [this]
      rw [List.drop_length] at hi
      have hi2 : eqRL us vs = true := by rw [hi]; simp [eqRL]
      exact retA_of (by simpa [eqR, Rt.lab, Rt.kids, hi2, hl] using hq)
  · have hl' : ¬ (us.length : Int) = vs.length := by omega
    simp [hl']
    exact retA_of (by simpa [eqR, Rt.lab, Rt.kids, hl] using hq)
theorem vref01_Equal_c (a : Srt) : ∀ (b : Srt) {h : Heap} {Q : AV → Heap → Prop}, a.nodes ≤ 1000000000 → Q (B (eqR a b)) h → ACalls prog n_vref01_Equal [sr a, sr b] h Q := by
  refine Rt.ind (P := fun a => ∀ (b : Srt) {h : Heap} {Q : AV → Heap → Prop}, a.nodes ≤ 1000000000 → Q (B (eqR a b)) h → ACalls prog n_vref01_Equal [sr a, sr b] h Q) (fun a us ih => ?_) a
  intro b h Q hm hq
  obtain ⟨b, vs⟩ := b
  refine vref01_Equal_call ?_
  unfold vref01_Equal sr
  simp only [Rt.nodes] at hm
  have hlen := Rt.length_le us
  simp [srC]
  by_cases hl : us.length = vs.length
  · simp [hl]
    refine loop_ix us.length (fun k => eqRL us vs = eqRL (us.drop k) (vs.drop k)) (by simp) fun k hk hi K hK => ?_
    by_cases hlt : k < us.length
    · have hlv : k < vs.length := by omega
      have hlt' : (k : Int) < us.length := by omega
      have hlv' : (k : Int) < vs.length := by omega
      have hn := kid_nodes hlt
      simp [hlt', hlt, hlv, hlv']
      refine callS_of ?_
      simp only [tm_eta, sr_eta]
      refine ih us[k] (List.getElem_mem hlt) vs[k] (by omega) ?_
      rw [Rt.eqRL_drop hlt hlv] at hi
      cases he : eqR us[k] vs[k] with
      | false => rw [he] at hi; simp; exact retA_of (by simpa [eqR, Rt.lab, Rt.kids, hi] using hq)
      | true => rw [he] at hi; simp [wrap_k (k := k) (by omega)]; exact hK hlt (by rw [hi]; simp)
    · have hkn : k = us.length := by omega
      subst hkn
      have : ¬ ((us.length : Int) < vs.length) := by omega
      simp [this]
      rw [List.drop_length] at hi
      have hi2 : eqRL us vs = true := by rw [hi]; simp [eqRL]
      exact retA_of (by simpa [eqR, Rt.lab, Rt.kids, hi2, hl] using hq)
  · have hl' : ¬ (us.length : Int) = vs.length := by omega
    simp [hl']
    exact retA_of (by simpa [eqR, Rt.lab, Rt.kids, hl] using hq)
theorem term_Same_c (a b : Tm) {h : Heap} {Q : AV → Heap → Prop} (hq : Q (B (decide (a.nodes ≤ 100000) && decide (b.nodes ≤ 100000) && eqR a b)) h) : ACalls prog n_term_Same [tm a, tm b] h Q := by
  refine term_Same_call ?_
  unfold term_Same tm
  simp
  refine callS_of ?_
  rw [tm_eta, tm_eta]
  refine term_large_c a ?_
  by_cases h1 : a.nodes ≤ 100000
  · have h1' : ¬ 100000 < a.nodes := by omega
    simp [h1']
    refine callS_of (term_large_c b ?_)
    by_cases h2 : b.nodes ≤ 100000
    · have h2' : ¬ 100000 < b.nodes := by omega
      simp [h2']
      exact callS_of (term_same_c a b (by omega) (retA_of (by simpa [h1, h2] using hq)))
    · have h2' : 100000 < b.nodes := by omega
      simp [h2']; exact retA_of (by simpa [h1, h2] using hq)
  · have h1' : 100000 < a.nodes := by omega
    simp [h1']; exact retA_of (by simpa [h1] using hq)
theorem vref02_Same_c (a b : Tm) {h : Heap} {Q : AV → Heap → Prop} (hq : Q (B (decide (a.nodes ≤ 100000) && decide (b.nodes ≤ 100000) && eqR a b)) h) : ACalls prog n_vref02_Same [tm a, tm b] h Q := by
  refine vref02_Same_call ?_
  unfold vref02_Same tm
  simp
  refine callS_of ?_
  rw [tm_eta, tm_eta]
  refine vref02_Large_c a ?_
  by_cases h1 : a.nodes ≤ 100000
  · have h1' : ¬ 100000 < a.nodes := by omega
    simp [h1']
    refine callS_of (vref02_Large_c b ?_)
    by_cases h2 : b.nodes ≤ 100000
    · have h2' : ¬ 100000 < b.nodes := by omega
      simp [h2']
      exact callS_of (vref02_Equal_c a b (by omega) (retA_of (by simpa [h1, h2] using hq)))
    · have h2' : 100000 < b.nodes := by omega
      simp [h2']; exact retA_of (by simpa [h1, h2] using hq)
  · have h1' : 100000 < a.nodes := by omega
    simp [h1']; exact retA_of (by simpa [h1] using hq)
theorem sorts_Same_c (a b : Srt) {h : Heap} {Q : AV → Heap → Prop} (hq : Q (B (decide (a.nodes ≤ 60) && eqR a b)) h) : ACalls prog n_sorts_Same [sr a, sr b] h Q := by
  refine sorts_Same_call ?_
  unfold sorts_Same sr
  simp
  refine callS_of ?_
  rw [sr_eta, sr_eta]
  refine sorts_Size_c a ?_
  simp
  refine callS_of (sorts_Size_c b ?_)
  by_cases h1 : a.nodes ≤ 60
  · have e1 : szN 60 a ≤ 60 := by simp [szN, h1]; omega
    simp [e1]
    by_cases h2 : b.nodes = a.nodes
    · have e2 : szN 60 a = szN 60 b := by simp [szN, h2]
      simp [e2]
      exact callS_of (sorts_same_c a b (by omega) (retA_of (by simpa [h1] using hq)))
    · have e2 : ¬ szN 60 a = szN 60 b := by simp only [szN, h1, if_true]; split <;> omega
      simp [e2]
      have : eqR a b = false := by
        cases he : eqR a b with
        | false => rfl
        | true => exact absurd (by rw [(eqR_iff a b).1 he]) h2
      exact retA_of (by simpa [this] using hq)
  · have e1 : ¬ szN 60 a ≤ 60 := by simp only [szN, h1, if_false]; omega
    simp [e1]
    exact retA_of (by simpa [h1] using hq)
theorem vref01_Same_c (a b : Srt) {h : Heap} {Q : AV → Heap → Prop} (hq : Q (B (decide (a.nodes ≤ 60) && eqR a b)) h) : ACalls prog n_vref01_Same [sr a, sr b] h Q := by
  refine vref01_Same_call ?_
  unfold vref01_Same sr
  simp
  refine callS_of ?_
  rw [sr_eta, sr_eta]
  refine vref01_Nodes_c a (m := 60) (by omega) ?_
  by_cases h1 : a.nodes ≤ 60
  · have e1 : ((min a.nodes (60 + 1) : Nat) : Int) ≤ 60 := by omega
    simp only [w_leq, e1, decide_true, w_brA, if_true]
    refine callS_of (vref01_Nodes_c b (m := 60) (by omega) ?_)
    by_cases h2 : b.nodes ≤ 60
    · have e2 : ((min b.nodes (60 + 1) : Nat) : Int) ≤ 60 := by omega
      simp only [w_leq, e2, decide_true, w_brA, if_true]
      exact callS_of (vref01_Equal_c a b (by omega) (retA_of (by simpa [h1] using hq)))
    · have e2 : ¬ ((min b.nodes (60 + 1) : Nat) : Int) ≤ 60 := by omega
      simp only [w_leq, e2, decide_false, w_brA, Bool.false_eq_true, if_false]
      have : eqR a b = false := by
        cases he : eqR a b with
        | false => rfl
        | true => exact absurd (by rw [← (eqR_iff a b).1 he]; exact h1) h2
      exact retA_of (by simpa [this] using hq)
  · have e1 : ¬ ((min a.nodes (60 + 1) : Nat) : Int) ≤ 60 := by omega
    simp only [w_leq, e1, decide_false, w_brA, Bool.false_eq_true, if_false]
    exact retA_of (by simpa [h1] using hq)
/-! ### Copies -/
theorem term_copied_c (t : Tm) : ∀ {h : Heap} {Q : AV → Heap → Prop}, t.nodes ≤ 1000000000 → (∀ x h', SlO 3 (tmCs t.kids) h x h' → Q (.agg [I t.lab.1, I t.lab.2, x]) h') → ACalls prog n_term_copied [tm t] h Q := by
  refine Rt.ind (P := fun t => ∀ {h : Heap} {Q : AV → Heap → Prop}, t.nodes ≤ 1000000000 → (∀ x h', SlO 3 (tmCs t.kids) h x h' → Q (.agg [I t.lab.1, I t.lab.2, x]) h') → ACalls prog n_term_copied [tm t] h Q) (fun a us ih => ?_) t
  intro h Q hm hq
  refine term_copied_call ?_
  unfold term_copied tm
  simp only [Rt.nodes] at hm
  have hlen := Rt.length_le us
  simp [tmC]
  refine loop_up us.length (fun k σ h' => ∃ x, σ = [I k, I a.1, I a.2, x] ∧ SlO 3 (tmCs (us.take k)) h x h') ⟨.e0, rfl, by simp [tmCs]; exact SlO.nil 3⟩ (fun k σ' h' ⟨x, e, _⟩ => by rw [e]; rfl) ?_
  rintro k σ' h' K hk ⟨x, rfl, hs⟩ hK
  by_cases hlt : k < us.length
  · have hlt' : (k : Int) < us.length := by omega
    have hn := kid_nodes hlt
    simp [hlt', hlt]
    refine callS_of ?_
    rw [tm_eta]
    refine ACalls.wk1 (ih us[k] (List.getElem_mem hlt) (by omega) fun y h2 hy => ?_)
    obtain ⟨r1, r2⟩ := hy.wk (tmCs_sz _)
    refine ⟨_, _, Ref.aggs (.cons .refl (.cons .refl (.cons r1 .nil))), r2, ?_⟩
    simp
    refine hs.app (by simp; omega) fun x2 h3 hs2 => ?_
    rw [hs2.one]
    rw [wrap_k (k := k) (by omega)]
    refine hK hlt _ _ ⟨x2, rfl, ?_⟩
    rw [tmCs_snoc hlt, tmC_e]
    exact hs2
  · have hkn : k = us.length := by omega
    subst hkn
    simp
    rw [List.take_length] at hs
    exact retA_of (hq x h' hs)
theorem term_copied_f (t : Tm) {h : Heap} {Q : AV → Heap → Prop} (ht : t.nodes ≤ 1000000000) (hq : Q (tm t) h) : ACalls prog n_term_copied [tm t] h Q :=
  ACalls.wk (term_copied_c t ht fun x h' hs => by
    obtain ⟨r1, r2⟩ := hs.wk (tmCs_sz _)
    exact Wk.one (Ref.aggs (.cons .refl (.cons .refl (.cons r1 .nil)))) r2 (by rw [tm_eta]; exact hq))
theorem vref02_Copy_c (t : Tm) : ∀ {h : Heap} {Q : AV → Heap → Prop}, t.nodes ≤ 1000000000 → (∀ x h', SlO 3 (tmCs t.kids) h x h' → Q (.agg [I t.lab.1, I t.lab.2, x]) h') → ACalls prog n_vref02_Copy [tm t] h Q := by
  refine Rt.ind (P := fun t => ∀ {h : Heap} {Q : AV → Heap → Prop}, t.nodes ≤ 1000000000 → (∀ x h', SlO 3 (tmCs t.kids) h x h' → Q (.agg [I t.lab.1, I t.lab.2, x]) h') → ACalls prog n_vref02_Copy [tm t] h Q) (fun a us ih => ?_) t
  intro h Q hm hq
  refine vref02_Copy_call ?_
  unfold vref02_Copy tm
  simp only [Rt.nodes] at hm
  have hlen := Rt.length_le us
  simp [tmC]
  refine loop_up us.length (fun k σ h' => ∃ x, σ = [I k, I a.1, I a.2, x] ∧ SlO 3 (tmCs (us.take k)) h x h') ⟨.e0, rfl, by simp [tmCs]; exact SlO.nil 3⟩ (fun k σ' h' ⟨x, e, _⟩ => by rw [e]; rfl) ?_
  rintro k σ' h' K hk ⟨x, rfl, hs⟩ hK
  by_cases hlt : k < us.length
  · have hlt' : (k : Int) < us.length := by omega
    have hn := kid_nodes hlt
    simp [hlt', hlt]
    refine callS_of ?_
    rw [tm_eta]
    refine ACalls.wk1 (ih us[k] (List.getElem_mem hlt) (by omega) fun y h2 hy => ?_)
    obtain ⟨r1, r2⟩ := hy.wk (tmCs_sz _)
    refine ⟨_, _, Ref.aggs (.cons .refl (.cons .refl (.cons r1 .nil))), r2, ?_⟩
    simp
    refine hs.app (by simp; omega) fun x2 h3 hs2 => ?_
    rw [hs2.one]
    rw [wrap_k (k := k) (by omega)]
    refine hK hlt _ _ ⟨x2, rfl, ?_⟩
    rw [tmCs_snoc hlt, tmC_e]
    exact hs2
  · have hkn : k = us.length := by omega
    subst hkn
    simp
    rw [List.take_length] at hs
    exact retA_of (hq x h' hs)
theorem vref02_Copy_f (t : Tm) {h : Heap} {Q : AV → Heap → Prop} (ht : t.nodes ≤ 1000000000) (hq : Q (tm t) h) : ACalls prog n_vref02_Copy [tm t] h Q :=
  ACalls.wk (vref02_Copy_c t ht fun x h' hs => by
    obtain ⟨r1, r2⟩ := hs.wk (tmCs_sz _)
    exact Wk.one (Ref.aggs (.cons .refl (.cons .refl (.cons r1 .nil)))) r2 (by rw [tm_eta]; exact hq))
theorem vref01_Copy_f (t : Srt) : ∀ {h : Heap} {Q : AV → Heap → Prop}, t.nodes ≤ 1000000000 → Q (sr t) h → ACalls prog n_vref01_Copy [sr t] h Q := by
  refine Rt.ind (P := fun t => ∀ {h : Heap} {Q : AV → Heap → Prop}, t.nodes ≤ 1000000000 → Q (sr t) h → ACalls prog n_vref01_Copy [sr t] h Q) (fun a us ih => ?_) t
  intro h Q hm hq
  refine vref01_Copy_call ?_
  unfold vref01_Copy sr
  simp only [Rt.nodes] at hm
  have hlen := Rt.length_le us
  simp [srC]
  refine loop_up us.length (fun k σ h' => ∃ x, σ = [I k, x] ∧ SlO 1 (srCs (us.take k)) h x h') ⟨.e0, rfl, by simp [srCs]; exact SlO.nil 1⟩ (fun k σ' h' ⟨x, e, _⟩ => by rw [e]; rfl) ?_
  rintro k σ' h' K hk ⟨x, rfl, hs⟩ hK
  by_cases hlt : k < us.length
  · have hlt' : (k : Int) < us.length := by omega
    have hn := kid_nodes hlt
    simp [hlt', hlt]
    refine callS_of ?_
    rw [sr_eta]
    refine ih us[k] (List.getElem_mem hlt) (by omega) ?_
    simp [sr]
    refine hs.app (by simp; omega) fun x2 h3 hs2 => ?_
    rw [hs2.one]
    rw [wrap_k (k := k) (by omega)]
    refine hK hlt _ _ ⟨x2, rfl, ?_⟩
    rw [srCs_snoc hlt]; exact hs2
  · have hkn : k = us.length := by omega
    subst hkn
    simp
    rw [List.take_length] at hs
    obtain ⟨r1, r2⟩ := hs.wk (srCs_sz _)
    exact retA_wk (Ref.aggs (.cons r1 .nil)) r2 hq
theorem sorts_copied_f (l : List Srt) : ∀ {h : Heap} {Q : AV → Heap → Prop}, Rt.nodesL l ≤ 1000000000 → Q (.rs 1 (srCs l)) h → ACalls prog n_sorts_copied [.rs 1 (srCs l)] h Q := by
  have key : ∀ (t : Srt) {h : Heap} {Q : AV → Heap → Prop}, t.nodes ≤ 1000000001 → Q (.rs 1 (srCs t.kids)) h → ACalls prog n_sorts_copied [.rs 1 (srCs t.kids)] h Q := by
    intro t
    refine Rt.ind (P := fun t => ∀ {h : Heap} {Q : AV → Heap → Prop}, t.nodes ≤ 1000000001 → Q (.rs 1 (srCs t.kids)) h → ACalls prog n_sorts_copied [.rs 1 (srCs t.kids)] h Q) (fun a us ih => ?_) t
    intro h Q hm hq
    simp only [Rt.kids] at hq ⊢
    refine sorts_copied_call ?_
    unfold sorts_copied
    simp only [Rt.nodes] at hm
    have hlen := Rt.length_le us
    simp
    refine loop_up us.length (fun k σ h' => ∃ x, σ = [x, I k] ∧ SlO 1 (srCs (us.take k)) h x h') ⟨.e0, rfl, by simp [srCs]; exact SlO.nil 1⟩ (fun k σ' h' ⟨x, e, _⟩ => by rw [e]; rfl) ?_
    rintro k σ' h' K hk ⟨x, rfl, hs⟩ hK
    by_cases hlt : k < us.length
    · have hlt' : (k : Int) < us.length := by omega
      have hn := kid_nodes hlt
      simp [hlt', hlt]
      refine callS_of ?_
      rw [srC_eq]
      refine ih us[k] (List.getElem_mem hlt) (by omega) ?_
      simp
      refine hs.app (by simp; omega) fun x2 h3 hs2 => ?_
      rw [wrap_k (k := k) (by omega)]
      refine hK hlt _ _ ⟨x2, rfl, ?_⟩
      rw [← srC_eq] at hs2
      rw [srCs_snoc hlt]; exact hs2
    · have hkn : k = us.length := by omega
      subst hkn
      simp
      rw [List.take_length] at hs
      obtain ⟨r1, r2⟩ := hs.wk (srCs_sz _)
      exact retA_wk r1 r2 hq
  intro h Q hl hq
  exact key (.mk () l) (by simp only [Rt.nodes]; omega) hq
/-- Behind a valid sort's first k arguments. -/
theorem sorts_Behind_0 (t : Srt) (ht : okS t = true) {h : Heap} {Q : AV → Heap → Prop} (hq : Q (.tup [sr t, I 0]) h) : ACalls prog n_sorts_Behind [sr t, I 0] h Q := by
  refine sorts_Behind_call ?_
  unfold sorts_Behind sr
  simp
  refine callS_of ?_
  rw [sr_eta]
  refine sorts_Check_c t ?_
  rw [srC_eq]
  simp [ht]
  have hn : t.nodes ≤ 60 := by unfold okS at ht; simp at ht; exact ht.1.1
  have hk : Rt.nodesL t.kids ≤ 60 := by cases t; simp only [Rt.nodes] at hn; simp only [Rt.kids]; omega
  refine callS_of (sorts_copied_f t.kids (by omega) ?_)
  simp
  rw [← srC_eq, sr_eta]
  exact retA_of hq
end Am
