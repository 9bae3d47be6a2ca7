/- Terms of a call's own, all the way down. -/
import Derived.Test.YtoifckjdnldlpaaLn
set_option linter.unusedVariables false
set_option linter.unusedSimpArgs false
namespace Am
open Go Go.Proofs.Try
mutual
/-- The cells hold the term, own all the way down: the ids. -/
def OT (h : Heap) : Tm → List Nat → List AV → Prop
  | .mk a us, L, cs => ∃ x, cs = [I a.1, I a.2, x] ∧ ((us = [] ∧ L = [] ∧ x = .e0) ∨ (us ≠ [] ∧ ∃ id els L', L = id :: L' ∧ x = .os id us.length ∧ h id = some (.arr 3 els) ∧ ¬ id ∈ L' ∧ OE h us L' els))
def OE (h : Heap) : List Tm → List Nat → List (List AV) → Prop
  | [], L, els => L = [] ∧ els = []
  | u :: us, L, els => ∃ L1 L2 c r, L = L1 ++ L2 ∧ els = c :: r ∧ (∀ j, j ∈ L1 → ¬ j ∈ L2) ∧ OT h u L1 c ∧ OE h us L2 r
end
def OL (h : Heap) (us : List Tm) (L : List Nat) (x : AV) : Prop := (us = [] ∧ L = [] ∧ x = .e0) ∨ (us ≠ [] ∧ ∃ id els L', L = id :: L' ∧ x = .os id us.length ∧ h id = some (.arr 3 els) ∧ ¬ id ∈ L' ∧ OE h us L' els)
theorem OT_iff {h : Heap} {a : Int × Int} {us : List Tm} {L : List Nat} {cs : List AV} : OT h (.mk a us) L cs ↔ ∃ x, cs = [I a.1, I a.2, x] ∧ OL h us L x := by rw [OT]; rfl
theorem OE_of {us : List Tm} (ih : ∀ t, t ∈ us → ∀ {h h' : Heap} {L : List Nat} {cs : List AV}, (∀ j, j ∈ L → h' j = h j) → OT h t L cs → OT h' t L cs) :
    ∀ {h h' : Heap} {L : List Nat} {els : List (List AV)}, (∀ j, j ∈ L → h' j = h j) → OE h us L els → OE h' us L els := by
  induction us with
  | nil => intro h h' L els _ H; rw [OE] at H ⊢; exact H
  | cons u us ih2 =>
    intro h h' L els hf H
    rw [OE] at H ⊢
    obtain ⟨L1, L2, c, r, rfl, rfl, hd, h1, h2⟩ := H
    exact ⟨L1, L2, c, r, rfl, rfl, hd, ih u (by simp) (fun j hj => hf j (by simp [hj])) h1, ih2 (fun t ht => ih t (by simp [ht])) (fun j hj => hf j (by simp [hj])) h2⟩
theorem OT.frame (t : Tm) : ∀ {h h' : Heap} {L : List Nat} {cs : List AV}, (∀ j, j ∈ L → h' j = h j) → OT h t L cs → OT h' t L cs := by
  refine Rt.ind (P := fun t => ∀ {h h' : Heap} {L : List Nat} {cs : List AV}, (∀ j, j ∈ L → h' j = h j) → OT h t L cs → OT h' t L cs) (fun a us ih => ?_) t
  intro h h' L cs hf H
  rw [OT_iff] at H ⊢
  obtain ⟨x, rfl, H⟩ := H
  refine ⟨x, rfl, ?_⟩
  rcases H with H | ⟨hne, id, els, L', rfl, rfl, h1, h2, h3⟩
  · exact .inl H
  · exact .inr ⟨hne, id, els, L', rfl, rfl, by rw [hf id (by simp)]; exact h1, h2, OE_of ih (fun j hj => hf j (by simp [hj])) h3⟩
theorem OE.frame {us : List Tm} {h h' : Heap} {L : List Nat} {els : List (List AV)} (hf : ∀ j, j ∈ L → h' j = h j) (H : OE h us L els) : OE h' us L els := OE_of (fun t _ => OT.frame t) hf H
theorem OL.frame {us : List Tm} {h h' : Heap} {L : List Nat} {x : AV} (hf : ∀ j, j ∈ L → h' j = h j) (H : OL h us L x) : OL h' us L x := by
  rcases H with H | ⟨hne, id, els, L', rfl, rfl, h1, h2, h3⟩
  · exact .inl H
  · exact .inr ⟨hne, id, els, L', rfl, rfl, by rw [hf id (by simp)]; exact h1, h2, OE.frame (fun j hj => hf j (by simp [hj])) h3⟩
theorem OE.len {us : List Tm} : ∀ {h : Heap} {L : List Nat} {els : List (List AV)}, OE h us L els → els.length = us.length := by
  induction us with
  | nil => intro h L els H; rw [OE] at H; simp [H.2]
  | cons u us ih => intro h L els H; rw [OE] at H; obtain ⟨L1, L2, c, r, rfl, rfl, hd, h1, h2⟩ := H; simp [ih h2]
theorem OE_live {us : List Tm} (ih : ∀ t, t ∈ us → ∀ {h : Heap} {L : List Nat} {cs : List AV}, OT h t L cs → ∀ j, j ∈ L → ∃ n, h j = some n) :
    ∀ {h : Heap} {L : List Nat} {els : List (List AV)}, OE h us L els → ∀ j, j ∈ L → ∃ n, h j = some n := by
  induction us with
  | nil => intro h L els H j hj; rw [OE] at H; rw [H.1] at hj; cases hj
  | cons u us ih2 =>
    intro h L els H j hj
    rw [OE] at H
    obtain ⟨L1, L2, c, r, rfl, rfl, hd, h1, h2⟩ := H
    rcases List.mem_append.1 hj with hj | hj
    · exact ih u (by simp) h1 j hj
    · exact ih2 (fun t ht => ih t (by simp [ht])) h2 j hj
theorem OT.live (t : Tm) : ∀ {h : Heap} {L : List Nat} {cs : List AV}, OT h t L cs → ∀ j, j ∈ L → ∃ n, h j = some n := by
  refine Rt.ind (P := fun t => ∀ {h : Heap} {L : List Nat} {cs : List AV}, OT h t L cs → ∀ j, j ∈ L → ∃ n, h j = some n) (fun a us ih => ?_) t
  intro h L cs H j hj
  rw [OT_iff] at H
  obtain ⟨x, rfl, H⟩ := H
  rcases H with ⟨_, rfl, _⟩ | ⟨hne, id, els, L', rfl, rfl, h1, h2, h3⟩
  · cases hj
  · rcases List.mem_cons.1 hj with e | hj
    · subst e; exact ⟨_, h1⟩
    · exact OE_live ih h3 j hj
theorem OL.live {us : List Tm} {h : Heap} {L : List Nat} {x : AV} (H : OL h us L x) : ∀ j, j ∈ L → ∃ n, h j = some n := fun j hj => OT.live (.mk (0, 0) us) (OT_iff.2 ⟨x, rfl, H⟩) j hj
theorem OE.live {us : List Tm} {h : Heap} {L : List Nat} {els : List (List AV)} (H : OE h us L els) : ∀ j, j ∈ L → ∃ n, h j = some n := OE_live (fun t _ => OT.live t) H
theorem OE.snoc {us : List Tm} {u : Tm} : ∀ {h : Heap} {L L1 : List Nat} {els : List (List AV)} {c : List AV}, OE h us L els → OT h u L1 c → (∀ j, j ∈ L → ¬ j ∈ L1) → OE h (us ++ [u]) (L ++ L1) (els ++ [c]) := by
  induction us with
  | nil =>
    intro h L L1 els c H H1 hd
    rw [OE] at H
    obtain ⟨rfl, rfl⟩ := H
    rw [List.nil_append, OE]
    exact ⟨L1, [], c, [], by simp, rfl, by simp, H1, by rw [OE]; exact ⟨rfl, rfl⟩⟩
  | cons v us ih =>
    intro h L L1 els c H H1 hd
    rw [OE] at H
    obtain ⟨M1, M2, d, r, rfl, rfl, hd2, h1, h2⟩ := H
    rw [List.cons_append, OE]
    refine ⟨M1, M2 ++ L1, d, r ++ [c], by simp, by simp, fun j hj hj2 => ?_, h1, ih h2 H1 fun j hj => hd j (by simp [hj])⟩
    rcases List.mem_append.1 hj2 with e | e
    · exact hd2 j hj e
    · exact hd j (by simp [hj]) e
/-- What is new between two heaps: the ids. -/
def New (h0 h : Heap) (L : List Nat) : Prop := (∀ j, ¬ j ∈ L → h j = h0 j) ∧ ∀ j, j ∈ L → h0 j = none
theorem New.nil (h : Heap) : New h h [] := ⟨fun _ _ => rfl, fun _ hj => by cases hj⟩
theorem New.href {h0 h : Heap} {L : List Nat} (H : New h0 h L) : HRef h h0 := HRef.sub fun j n hj => by
  have : ¬ j ∈ L := fun e => by rw [H.2 j e] at hj; cases hj
  rw [H.1 j this]; exact hj
theorem OL.app {h0 h h1 : Heap} {us : List Tm} {u : Tm} {L L1 : List Nat} {x : AV} {c : List AV} {K : AV → Heap → Prop} (H : OL h us L x) (N : New h0 h L) (H1 : OT h1 u L1 c) (N1 : New h h1 L1)
    (hz : (us.length + 1) * 40 ≤ 140737488355328) (hk : ∀ x2 h2 L2, OL h2 (us ++ [u]) L2 x2 → New h0 h2 L2 → (∀ k, oneA x2 k = k) → K x2 h2) : appA 3 40 x (.rs 3 [c]) h1 K := by
  unfold appA srcA
  refine ⟨rfl, ?_⟩
  have hlL := H.live
  have hl1 := OT.live u H1
  rcases H with ⟨rfl, rfl, rfl⟩ | ⟨hne, id, els, L', rfl, rfl, h2, h3, h4⟩
  · refine ⟨by simp, ⟨fun e => absurd e (by simp), fun _ id hid => ?_⟩⟩
    have hi1 : ¬ id ∈ L1 := fun e => by obtain ⟨n, hn⟩ := hl1 id e; rw [hid] at hn; cases hn
    have hh : h id = none := by rw [← N1.1 id hi1]; exact hid
    have hfr : ∀ j, j ∈ L1 → (h1.set id (.arr 3 [c])) j = h1 j := fun j hj => Heap.set_ne (fun e => hi1 (e ▸ hj))
    refine hk _ _ (id :: L1) (.inr ⟨by simp, id, [c], L1, rfl, rfl, Heap.set_same _ _ _, hi1, ?_⟩) ⟨fun j hj => ?_, fun j hj => ?_⟩ (fun k => rfl)
    · rw [List.nil_append, OE]
      exact ⟨L1, [], c, [], by simp, rfl, by simp, OT.frame u hfr H1, by rw [OE]; exact ⟨rfl, rfl⟩⟩
    · simp only [List.mem_cons, not_or] at hj
      rw [Heap.set_ne hj.1, N1.1 j hj.2, N.1 j (by simp)]
    · rcases List.mem_cons.1 hj with e | e
      · subst e; rw [← N.1 j (by simp)]; exact hh
      · rw [← N.1 j (by simp)]; exact N1.2 j e
  · have hid1 : ¬ id ∈ L1 := fun e => by rw [N1.2 id e] at h2; cases h2
    have e1 : h1 id = some (.arr 3 els) := by rw [N1.1 id hid1]; exact h2
    have hel := h4.len
    simp only [e1]
    refine ⟨trivial, by omega, hz, fun id' hid' => ?_⟩
    rw [← hel, List.take_length]
    have hL'1 : ∀ j, j ∈ L' → ¬ j ∈ L1 := fun j hj e => by
      obtain ⟨n, hn⟩ := hlL j (by simp [hj]); rw [N1.2 j e] at hn; cases hn
    have hdel : ∀ j, j ∈ L' ∨ j ∈ L1 → (h1.del id) j = h1 j ∧ j ≠ id' := fun j hj => by
      have hji : j ≠ id := by
        rintro rfl
        rcases hj with e | e
        · exact h3 e
        · exact hid1 e
      have e2 : (h1.del id) j = h1 j := Heap.del_ne hji
      refine ⟨e2, ?_⟩
      rintro rfl
      rw [e2] at hid'
      rcases hj with e | e
      · obtain ⟨n, hn⟩ := hlL j (by simp [e]); rw [← N1.1 j (hL'1 j e), hid'] at hn; cases hn
      · obtain ⟨n, hn⟩ := hl1 j e; rw [hid'] at hn; cases hn
    have hfr : ∀ j, j ∈ L' ∨ j ∈ L1 → ((h1.del id).set id' (.arr 3 (els ++ [c]))) j = h1 j := fun j hj => by
      obtain ⟨a, b⟩ := hdel j hj
      rw [Heap.set_ne b, a]
    refine hk _ _ (id' :: (L' ++ L1)) (.inr ⟨by simp, id', els ++ [c], L' ++ L1, rfl, by simp [hel], Heap.set_same _ _ _, ?_, ?_⟩) ⟨fun j hj => ?_, fun j hj => ?_⟩ (fun k => rfl)
    · intro e
      exact (hdel id' (List.mem_append.1 e)).2 rfl
    · refine OE.snoc (OE.frame (fun j hj => ?_) h4) (OT.frame u (fun j hj => hfr j (.inr hj)) H1) hL'1
      rw [hfr j (.inl hj), N1.1 j (hL'1 j hj)]
    · simp only [List.mem_cons, List.mem_append, not_or] at hj
      rw [Heap.set_ne hj.1]
      by_cases e : j = id
      · subst e; rw [Heap.del_same]; exact (N.2 j (by simp)).symm
      · rw [Heap.del_ne e, N1.1 j hj.2.2, N.1 j (by simp [e, hj.2.1])]
    · rcases List.mem_cons.1 hj with e | e
      · subst e
        by_cases e : j = id
        · subst e; exact N.2 j (by simp)
        · rw [Heap.del_ne e] at hid'
          have a : ¬ j ∈ L1 := fun e => by obtain ⟨n, hn⟩ := hl1 j e; rw [hid'] at hn; cases hn
          rw [N1.1 j a] at hid'
          have b : ¬ j ∈ id :: L' := fun e => by obtain ⟨n, hn⟩ := hlL j e; rw [hid'] at hn; cases hn
          rw [← N.1 j b]; exact hid'
      · rcases List.mem_append.1 e with e | e
        · exact N.2 j (by simp [e])
        · have a := N1.2 j e
          have b : ¬ j ∈ id :: L' := fun e' => by obtain ⟨n, hn⟩ := hlL j e'; rw [a] at hn; cases hn
          rw [← N.1 j b]; exact a
end Am
