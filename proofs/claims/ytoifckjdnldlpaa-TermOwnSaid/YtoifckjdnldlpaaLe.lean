/- Contracts: the sort of a term. -/
import Derived.Test.YtoifckjdnldlpaaLd
set_option linter.unusedVariables false
set_option linter.unusedSimpArgs false
namespace Am
open Go Go.Proofs.Try
open Rt (eqR eqRL eqR_iff)
def so : Srt := .mk () []
def headR (p : Pl) (a : Int × Int) : Srt × Bool :=
  if a.2 < 0 then (so, false)
  else if a.1 = 0 then (if a.2 < p.params.length then (p.params.getD a.2.toNat so, true) else (so, false))
  else if a.1 = 1 then (if a.2 < p.funs.length then (p.funs.getD a.2.toNat so, true) else (so, false))
  else if a.1 = 2 then (if a.2 < p.syms.length then (.mk () (List.replicate (p.syms.getD a.2.toNat (⟨#[]⟩, 0)).2.toNat so), true) else (so, false))
  else (so, false)
mutual
def sortR (p : Pl) : Tm → Srt × Bool
  | .mk a us => if (headR p a).2 && decide (us.length ≤ (headR p a).1.kids.length) && argsB p us (headR p a).1.kids then (.mk () ((headR p a).1.kids.drop us.length), true) else (so, false)
def argsB (p : Pl) : List Tm → List Srt → Bool
  | [], _ => true
  | u :: us, l => (match l with | [] => true | x :: xs => (sortR p u).2 && eqR (sortR p u).1 x && argsB p us xs)
end
theorem argsB_drop {p : Pl} {us : List Tm} {ks : List Srt} {k : Nat} (hk : k < us.length) (hl : k < ks.length) : argsB p (us.drop k) (ks.drop k) = ((sortR p us[k]).2 && eqR (sortR p us[k]).1 ks[k] && argsB p (us.drop (k + 1)) (ks.drop (k + 1))) := by
  rw [List.drop_eq_getElem_cons hk, List.drop_eq_getElem_cons hl]; simp [argsB]
theorem symsB_rank : ∀ {l : List Sy} {seen : List ByteArray}, symsB l seen = true → ∀ s, s ∈ l → 0 ≤ s.2 ∧ s.2 ≤ 4
  | [], _, _, s, hs => by cases hs
  | x :: r, seen, h, s, hs => by
    simp only [symsB, Bool.and_eq_true, decide_eq_true_eq] at h
    rcases List.mem_cons.1 hs with rfl | hs
    · exact ⟨h.1.1.2, h.1.2⟩
    · exact symsB_rank h.2 s hs
structure PlOk (p : Pl) : Prop where
  rank : ∀ s, s ∈ p.syms → 0 ≤ s.2 ∧ s.2 ≤ 4
  nsyms : p.syms.length ≤ 24
  nfuns : p.funs.length ≤ 64
  npar : p.params.length ≤ 8
  funs : ∀ s, s ∈ p.funs → okS s = true
  params : ∀ s, s ∈ p.params → okS s = true
theorem plB_ok {p : Pl} (h : plB p = true) : PlOk p := by
  unfold plB at h
  simp only [Bool.and_eq_true, decide_eq_true_eq, List.all_eq_true] at h
  exact ⟨symsB_rank h.1.1.1.1.1, h.1.1.1.1.2, h.1.1.1.2, h.1.1.2, h.1.2, h.2⟩
theorem ref_so {h h' : Heap} : Ref h h' (.agg [.e0]) (sr so) := Ref.aggs (.cons .e0 .nil)
theorem ret_so {h : Heap} {Q : AV → Heap → Prop} {b : Bool} (hq : Q (.tup [sr so, B b]) h) : retA (.tup [.agg [.e0], .val (.bool b)]) h Q :=
  retA_wk (Ref.tups (.cons ref_so (.cons .refl .nil))) (HRef.refl h) hq
theorem ret_soI {h : Heap} {Q : AV → Heap → Prop} {n : Int} (hq : Q (.tup [sr so, I n]) h) : retA (.tup [.agg [.e0], I n]) h Q :=
  retA_wk (Ref.tups (.cons ref_so (.cons .refl .nil))) (HRef.refl h) hq
theorem mk_syms {r : Int} (h0 : 0 ≤ r) (h4 : r ≤ 4) {h : Heap} {Q : AV → Heap → Prop} (hq : Q (.tup [sr (.mk () (List.replicate r.toNat so)), B true]) h) :
    mkA 1 24 [.e0] (I r) (I r) h fun x h2 => oneA x (retA (.tup [.agg [x], .val (.bool true)]) h2 Q) := by
  refine ⟨rfl, h0, by omega, fun id hid => ?_⟩
  show retA _ _ _
  have hl : (srCs (List.replicate r.toNat so)).length = r.toNat := by simp
  refine retA_wk (Ref.tups (.cons (Ref.aggs (.cons (.frz (Heap.set_same h id _) hid (by simp) hl (fun i hi => ?_) fun i j hi hj => ?_) .nil)) (.cons .refl .nil))) (HRef.drop hid) hq
  · rw [srCs_get (by simpa using hi)]; rfl
  · obtain rfl : j = 0 := by omega
    rw [srCs_get (by simpa using hi)]
    simp only [List.getD_eq_getElem?_getD, List.getElem?_replicate, hi, if_true, Option.getD_some, g_0, List.getElem_replicate]
    exact .e0
theorem head_tac {p : Pl} (hp : PlOk p) {a : Int × Int} {h : Heap} {Q : AV → Heap → Prop} (hq : Q (.tup [sr (headR p a).1, B (headR p a).2]) h) :
    (a.2 < 0 → retA (.tup [.agg [.e0], .val (.bool false)]) h Q) ∧
    (¬ a.2 < 0 → a.1 = 0 → (a.2 < p.params.length → ∀ hk : a.2.toNat < p.params.length, retA (.tup [.agg [srC p.params[a.2.toNat]], .val (.bool true)]) h Q) ∧ (¬ a.2 < p.params.length → retA (.tup [.agg [.e0], .val (.bool false)]) h Q)) ∧
    (¬ a.2 < 0 → a.1 = 1 → (a.2 < p.funs.length → ∀ hk : a.2.toNat < p.funs.length, retA (.tup [.agg [srC p.funs[a.2.toNat]], .val (.bool true)]) h Q) ∧ (¬ a.2 < p.funs.length → retA (.tup [.agg [.e0], .val (.bool false)]) h Q)) ∧
    (¬ a.2 < 0 → a.1 = 2 → (a.2 < p.syms.length → ∀ hk : a.2.toNat < p.syms.length, mkA 1 24 [.e0] (I p.syms[a.2.toNat].2) (I p.syms[a.2.toNat].2) h fun x h2 => oneA x (retA (.tup [.agg [x], .val (.bool true)]) h2 Q)) ∧ (¬ a.2 < p.syms.length → retA (.tup [.agg [.e0], .val (.bool false)]) h Q)) ∧
    (¬ a.2 < 0 → a.1 ≠ 0 → a.1 ≠ 1 → a.1 ≠ 2 → retA (.tup [.agg [.e0], .val (.bool false)]) h Q) := by
  unfold headR at hq
  refine ⟨fun h0 => ret_so ?_, fun h0 h1 => ⟨fun h2 hk => retA_of ?_, fun h2 => ret_so ?_⟩, fun h0 h1 => ⟨fun h2 hk => retA_of ?_, fun h2 => ret_so ?_⟩, fun h0 h1 => ⟨fun h2 hk => mk_syms (hp.rank _ (List.getElem_mem hk)).1 (hp.rank _ (List.getElem_mem hk)).2 ?_, fun h2 => ret_so ?_⟩, fun h0 h1 h2 h3 => ret_so ?_⟩
  · simpa [h0] using hq
  · simpa [h0, h1, h2, hk, List.getD_eq_getElem?_getD, sr] using hq
  · simpa [h0, h1, h2] using hq
  · simpa [h0, h1, h2, hk, List.getD_eq_getElem?_getD, sr] using hq
  · simpa [h0, h1, h2] using hq
  · simpa [h0, h1, h2, hk, List.getD_eq_getElem?_getD, sr] using hq
  · simpa [h0, h1, h2] using hq
  · simpa [h0, h1, h2, h3] using hq
theorem term_Place_head_c (p : Pl) (hp : PlOk p) (t : Tm) {h : Heap} {Q : AV → Heap → Prop} (hq : Q (.tup [sr (headR p t.lab).1, B (headR p t.lab).2]) h) : ACalls prog n_term_Place_head [pl p, tm t] h Q := by
  refine term_Place_head_call ?_
  unfold term_Place_head pl tm
  obtain ⟨H0, H1, H2, H3, H4⟩ := head_tac hp hq
  simp
  by_cases h0 : t.lab.2 < 0
  · simp [h0]; exact H0 h0
  simp [h0]
  have h0' : 0 ≤ t.lab.2 := by omega
  by_cases k0 : t.lab.1 = 0
  · obtain ⟨a1, a2⟩ := H1 h0 k0
    simp [k0]
    by_cases hl : t.lab.2 < p.params.length
    · have hk : t.lab.2.toNat < p.params.length := by omega
      simp [hl, h0', hk]; exact a1 hl hk
    · simp [hl]; exact a2 hl
  by_cases k1 : t.lab.1 = 1
  · obtain ⟨a1, a2⟩ := H2 h0 k1
    simp [k1]
    by_cases hl : t.lab.2 < p.funs.length
    · have hk : t.lab.2.toNat < p.funs.length := by omega
      simp [hl, h0', hk]; exact a1 hl hk
    · simp [hl]; exact a2 hl
  by_cases k2 : t.lab.1 = 2
  · obtain ⟨a1, a2⟩ := H3 h0 k2
    simp [k2]
    by_cases hl : t.lab.2 < p.syms.length
    · have hk : t.lab.2.toNat < p.syms.length := by omega
      simp [hl, h0', hk]; exact a1 hl hk
    · simp [hl]; exact a2 hl
  · simp [k0, k1, k2]; exact H4 h0 k0 k1 k2
theorem vref02_head_c (p : Pl) (hp : PlOk p) (t : Tm) {h : Heap} {Q : AV → Heap → Prop} (hq : Q (.tup [sr (headR p t.lab).1, B (headR p t.lab).2]) h) : ACalls prog n_vref02_head [pl p, tm t] h Q := by
  refine vref02_head_call ?_
  unfold vref02_head pl tm
  obtain ⟨H0, H1, H2, H3, H4⟩ := head_tac hp hq
  simp
  by_cases h0 : t.lab.2 < 0
  · simp [h0]; exact H0 h0
  simp [h0]
  have h0' : 0 ≤ t.lab.2 := by omega
  by_cases k0 : t.lab.1 = 0
  · obtain ⟨a1, a2⟩ := H1 h0 k0
    simp [k0]
    by_cases hl : t.lab.2 < p.params.length
    · have hk : t.lab.2.toNat < p.params.length := by omega
      simp [hl, h0', hk]; exact a1 hl hk
    · simp [hl]; exact a2 hl
  by_cases k1 : t.lab.1 = 1
  · obtain ⟨a1, a2⟩ := H2 h0 k1
    simp [k1]
    by_cases hl : t.lab.2 < p.funs.length
    · have hk : t.lab.2.toNat < p.funs.length := by omega
      simp [hl, h0', hk]; exact a1 hl hk
    · simp [hl]; exact a2 hl
  by_cases k2 : t.lab.1 = 2
  · obtain ⟨a1, a2⟩ := H3 h0 k2
    simp [k2]
    by_cases hl : t.lab.2 < p.syms.length
    · have hk : t.lab.2.toNat < p.syms.length := by omega
      simp [hl, h0', hk]; exact a1 hl hk
    · simp [hl]; exact a2 hl
  · simp [k0, k1, k2]; exact H4 h0 k0 k1 k2
/-! ### What is valid stays valid -/
theorem okS_iff (s : Srt) : okS s = true ↔ s.nodes ≤ 60 ∧ s.depth ≤ 30 ∧ few s = true := by simp [okS, and_assoc]
theorem few_iff (a : Unit) (us : List Srt) : few (.mk a us) = true ↔ fewL us = true ∧ us.length ≤ 8 := by simp [few]
theorem fewL_append (l l' : List Srt) : fewL (l ++ l') = (fewL l && fewL l') := by
  induction l with
  | nil => rfl
  | cons s l ih => simp [fewL, ih, Bool.and_assoc]
theorem okS_drop {s : Srt} (hs : okS s = true) (k : Nat) : okS (.mk () (s.kids.drop k)) = true := by
  obtain ⟨a, us⟩ := s
  rw [okS_iff] at hs ⊢
  obtain ⟨h1, h2, h3⟩ := hs
  rw [few_iff] at h3 ⊢
  show Rt.nodes (.mk () (us.drop k)) ≤ 60 ∧ Rt.depth (.mk () (us.drop k)) ≤ 30 ∧ fewL (us.drop k) = true ∧ (us.drop k).length ≤ 8
  have n1 : Rt.nodesL us = Rt.nodesL (us.take k) + Rt.nodesL (us.drop k) := by rw [← Rt.nodesL_append, List.take_append_drop]
  have n2 : Rt.depthL us = max (Rt.depthL (us.take k)) (Rt.depthL (us.drop k)) := by rw [← Rt.depthL_append, List.take_append_drop]
  have n3 : fewL us = (fewL (us.take k) && fewL (us.drop k)) := by rw [← fewL_append, List.take_append_drop]
  rw [n3, Bool.and_eq_true] at h3
  simp only [Rt.nodes, Rt.depth] at h1 h2 ⊢
  rw [List.length_drop]
  exact ⟨by omega, by omega, h3.1.2, by omega⟩
theorem okS_rep {n : Nat} (hn : n ≤ 4) : okS (.mk () (List.replicate n so)) = true := by
  match n, hn with
  | 0, _ => decide
  | 1, _ => decide
  | 2, _ => decide
  | 3, _ => decide
  | 4, _ => decide
theorem okS_so : okS so = true := by decide
theorem headR_ok {p : Pl} (hp : PlOk p) (a : Int × Int) : okS (headR p a).1 = true := by
  unfold headR
  split
  · exact okS_so
  split
  · split
    · have hk : a.2.toNat < p.params.length := by omega
      simp only [List.getD_eq_getElem?_getD, List.getElem?_eq_getElem hk, Option.getD_some]
      exact hp.params _ (List.getElem_mem hk)
    · exact okS_so
  split
  · split
    · have hk : a.2.toNat < p.funs.length := by omega
      simp only [List.getD_eq_getElem?_getD, List.getElem?_eq_getElem hk, Option.getD_some]
      exact hp.funs _ (List.getElem_mem hk)
    · exact okS_so
  split
  · split
    · have hk : a.2.toNat < p.syms.length := by omega
      simp only [List.getD_eq_getElem?_getD, List.getElem?_eq_getElem hk, Option.getD_some]
      exact okS_rep (by have := (hp.rank _ (List.getElem_mem hk)).2; omega)
    · exact okS_so
  · exact okS_so
theorem sortR_ok {p : Pl} (hp : PlOk p) (t : Tm) : okS (sortR p t).1 = true := by
  obtain ⟨a, us⟩ := t
  unfold sortR
  split
  · exact okS_drop (headR_ok hp a) _
  · exact okS_so
theorem okS_nodes {s : Srt} (h : okS s = true) : s.nodes ≤ 60 := by unfold okS at h; simp at h; exact h.1.1
theorem term_Place_sort_c (p : Pl) (hp : PlOk p) (t : Tm) : ∀ {h : Heap} {Q : AV → Heap → Prop}, t.nodes ≤ 1000000000 → Q (.tup [sr (sortR p t).1, B (sortR p t).2]) h → ACalls prog n_term_Place_sort [pl p, tm t] h Q := by
  refine Rt.ind (P := fun t => ∀ {h : Heap} {Q : AV → Heap → Prop}, t.nodes ≤ 1000000000 → Q (.tup [sr (sortR p t).1, B (sortR p t).2]) h → ACalls prog n_term_Place_sort [pl p, tm t] h Q) (fun a us ih => ?_) t
  intro h Q hm hq
  refine term_Place_sort_call ?_
  have hpe : ∀ x y z : AV, True := fun _ _ _ => trivial
  unfold term_Place_sort
  simp only [Rt.nodes] at hm
  have hlen := Rt.length_le us
  have hok := headR_ok hp a
  simp [pl, tm, tmC]
  refine callS_of ?_
  rw [pl_eta, show (.agg [I a.1, I a.2, .rs 3 (tmCs us)] : AV) = tm (.mk a us) from rfl]
  refine term_Place_head_c p hp _ ?_
  simp only [Rt.lab]
  unfold sortR at hq
  have hks := srC_eq (headR p a).1
  simp [sr]
  cases hb : (headR p a).2 with
  | false => simp; exact ret_so (by simpa [hb] using hq)
  | true =>
    rw [hks]
    simp
    by_cases hl : us.length ≤ (headR p a).1.kids.length
    · have hl' : ¬ (headR p a).1.kids.length < us.length := by omega
      simp only [hl', if_false]
      refine loop_up us.length (fun k σ h' => σ = [I k, .e0] ∧ h' = h ∧ argsB p us (headR p a).1.kids = argsB p (us.drop k) ((headR p a).1.kids.drop k)) ⟨rfl, rfl, by simp⟩ (fun k σ' h' ⟨e, _⟩ => by rw [e]; rfl) ?_
      rintro k σ' h' K hk ⟨rfl, rfl, hi⟩ hK
      by_cases hlt : k < us.length
      · have hlt' : (k : Int) < us.length := by omega
        have hlv : k < (headR p a).1.kids.length := by omega
        have hlv' : (k : Int) < (headR p a).1.kids.length := by omega
        have hn := kid_nodes hlt
        simp [hlt', hlt]
        refine callS_of ?_
        simp only [tm_eta, pl_eta]
        refine ih us[k] (List.getElem_mem hlt) (by omega) ?_
        rw [argsB_drop hlt hlv] at hi
        rw [hi] at hq
        simp [sr]
        cases hr : (sortR p us[k]).2 with
        | false => simp; exact ret_so (by simpa [hr] using hq)
        | true =>
          simp [hlv, hlv']
          refine callS_of ?_
          simp only [sr_eta]
          refine sorts_Same_c _ _ ?_
          simp only [okS_nodes (sortR_ok hp us[k]), decide_true, Bool.true_and]
          cases he : eqR (sortR p us[k]).1 (headR p a).1.kids[k] with
          | false => simp; exact ret_so (by simpa [hr, he] using hq)
          | true => simp [wrap_k (k := k) (by omega)]; exact hK hlt _ _ ⟨rfl, rfl, by rw [hi, hr, he]; rfl⟩
      · have hkn : k = us.length := by omega
        subst hkn
        have hl2 : (us.length : Int) ≤ (headR p a).1.kids.length := by omega
        simp [hl2]
        rw [List.drop_length] at hi
        have hi2 : argsB p us (headR p a).1.kids = true := by rw [hi]; simp [argsB]
        refine ⟨hl, retA_of ?_⟩
        rw [show srCs (headR p a).1.kids = (headR p a).1.kids.map fun s => [srC s] from srCs_eq _, ← List.map_drop, ← srCs_eq]
        simpa [hb, hl, hi2, sr, srC] using hq
    · have hl' : (headR p a).1.kids.length < us.length := by omega
      simp only [hl', if_true]
      exact ret_so (by simpa [hl] using hq)
theorem vref02_Of_c (p : Pl) (hp : PlOk p) (t : Tm) : ∀ {h : Heap} {Q : AV → Heap → Prop}, t.nodes ≤ 1000000000 → Q (.tup [sr (sortR p t).1, B (sortR p t).2]) h → ACalls prog n_vref02_Of [pl p, tm t] h Q := by
  refine Rt.ind (P := fun t => ∀ {h : Heap} {Q : AV → Heap → Prop}, t.nodes ≤ 1000000000 → Q (.tup [sr (sortR p t).1, B (sortR p t).2]) h → ACalls prog n_vref02_Of [pl p, tm t] h Q) (fun a us ih => ?_) t
  intro h Q hm hq
  refine vref02_Of_call ?_
  unfold vref02_Of
  simp only [Rt.nodes] at hm
  have hlen := Rt.length_le us
  have hok := headR_ok hp a
  simp [pl, tm, tmC]
  refine callS_of ?_
  rw [pl_eta, show (.agg [I a.1, I a.2, .rs 3 (tmCs us)] : AV) = tm (.mk a us) from rfl]
  refine vref02_head_c p hp _ ?_
  simp only [Rt.lab]
  unfold sortR at hq
  have hks := srC_eq (headR p a).1
  simp [sr]
  cases hb : (headR p a).2 with
  | false => simp; exact ret_so (by simpa [hb] using hq)
  | true =>
    rw [hks]
    simp
    by_cases hl : us.length ≤ (headR p a).1.kids.length
    · have hl' : ¬ (headR p a).1.kids.length < us.length := by omega
      simp only [hl', if_false]
      refine loop_up us.length (fun k σ h' => σ = [I k, .e0] ∧ h' = h ∧ argsB p us (headR p a).1.kids = argsB p (us.drop k) ((headR p a).1.kids.drop k)) ⟨rfl, rfl, by simp⟩ (fun k σ' h' ⟨e, _⟩ => by rw [e]; rfl) ?_
      rintro k σ' h' K hk ⟨rfl, rfl, hi⟩ hK
      by_cases hlt : k < us.length
      · have hlt' : (k : Int) < us.length := by omega
        have hlv : k < (headR p a).1.kids.length := by omega
        have hlv' : (k : Int) < (headR p a).1.kids.length := by omega
        have hn := kid_nodes hlt
        simp [hlt', hlt]
        refine callS_of ?_
        simp only [tm_eta, pl_eta]
        refine ih us[k] (List.getElem_mem hlt) (by omega) ?_
        rw [argsB_drop hlt hlv] at hi
        rw [hi] at hq
        simp [sr]
        cases hr : (sortR p us[k]).2 with
        | false => simp; exact ret_so (by simpa [hr] using hq)
        | true =>
          simp [hlv, hlv']
          refine callS_of ?_
          simp only [sr_eta]
          refine vref01_Equal_c _ _ (by have := okS_nodes (sortR_ok hp us[k]); omega) ?_
          cases he : eqR (sortR p us[k]).1 (headR p a).1.kids[k] with
          | false => simp; exact ret_so (by simpa [hr, he] using hq)
          | true => simp [wrap_k (k := k) (by omega)]; exact hK hlt _ _ ⟨rfl, rfl, by rw [hi, hr, he]; rfl⟩
      · have hkn : k = us.length := by omega
        subst hkn
        have hl2 : (us.length : Int) ≤ (headR p a).1.kids.length := by omega
        simp [hl2]
        rw [List.drop_length] at hi
        have hi2 : argsB p us (headR p a).1.kids = true := by rw [hi]; simp [argsB]
        refine ⟨hl, retA_of ?_⟩
        rw [show srCs (headR p a).1.kids = (headR p a).1.kids.map fun s => [srC s] from srCs_eq _, ← List.map_drop, ← srCs_eq]
        simpa [hb, hl, hi2, sr, srC] using hq
    · have hl' : (headR p a).1.kids.length < us.length := by omega
      simp only [hl', if_true]
      exact ret_so (by simpa [hl] using hq)
/-! ### Sort -/
def sortE (p : Pl) (t : Tm) : Srt × Int := if !plB p then (so, 2) else if 100000 < t.nodes then (so, 3) else if (sortR p t).2 then ((sortR p t).1, 0) else (so, 6)
theorem term_Sort_c (p : Pl) (t : Tm) {h : Heap} {Q : AV → Heap → Prop} (hq : Q (.tup [sr (sortE p t).1, I (sortE p t).2]) h) : ACalls prog n_term_Sort [pl p, tm t] h Q := by
  refine term_Sort_call ?_
  unfold term_Sort
  simp [pl, tm]
  refine callS_of ?_
  simp only [tm_eta, pl_eta]
  refine term_Check_c p ?_
  unfold sortE at hq
  cases hp : plB p with
  | false => simp; exact ret_soI (by simpa [hp] using hq)
  | true =>
    have hpo := plB_ok hp
    simp
    refine callS_of (term_large_c t ?_)
    by_cases hl : 100000 < t.nodes
    · simp [hl]; exact ret_soI (by simpa [hp, hl] using hq)
    · simp [hl]
      refine callS_of (term_Place_sort_c p hpo t (by omega) ?_)
      simp [sr]
      cases hr : (sortR p t).2 with
      | false => simp; exact ret_soI (by simpa [hp, hl, hr] using hq)
      | true =>
        simp
        refine callS_of ?_
        rw [sr_eta]
        refine sorts_Behind_0 _ (sortR_ok hpo t) ?_
        simp [sr]
        exact retA_of (by simpa [hp, hl, hr, sr] using hq)
theorem vref02_Sort_c (p : Pl) (t : Tm) {h : Heap} {Q : AV → Heap → Prop} (hq : Q (.tup [sr (sortE p t).1, I (sortE p t).2]) h) : ACalls prog n_vref02_Sort [pl p, tm t] h Q := by
  refine vref02_Sort_call ?_
  unfold vref02_Sort
  simp [pl, tm]
  refine callS_of ?_
  simp only [tm_eta, pl_eta]
  refine vref02_Is_c p ?_
  unfold sortE at hq
  cases hp : plB p with
  | false => simp; exact ret_soI (by simpa [hp] using hq)
  | true =>
    have hpo := plB_ok hp
    simp
    refine callS_of (vref02_Large_c t ?_)
    by_cases hl : 100000 < t.nodes
    · simp [hl]; exact ret_soI (by simpa [hp, hl] using hq)
    · simp [hl]
      refine callS_of (vref02_Of_c p hpo t (by omega) ?_)
      simp [sr]
      cases hr : (sortR p t).2 with
      | false => simp; exact ret_soI (by simpa [hp, hl, hr] using hq)
      | true =>
        simp
        refine callS_of ?_
        rw [sr_eta]
        refine vref01_Copy_f _ (by have := okS_nodes (sortR_ok hpo t); omega) ?_
        simp [sr]
        exact retA_of (by simpa [hp, hl, hr, sr] using hq)
end Am
