/- term.Free: the variables of a term, in order, each once. -/
import Derived.Test.YtoifckjdnldlpaaS1
import Derived.Test.YtoifckjdnldlpaaFL0F
import Derived.Test.YtoifckjdnldlpaaLi
import Derived.Lib.RowBridge
set_option linter.unusedVariables false
set_option linter.unusedSimpArgs false
namespace Am
open Go Go.Proofs.Try
theorem Heap.set_comm {h : Heap} {i j : Nat} (hij : i ≠ j) (a b : Node) : (h.set i a).set j b = (h.set j b).set i a := by
  funext k
  by_cases h1 : k = i
  · subst h1; rw [Heap.set_same, Heap.set_ne hij, Heap.set_same]
  · rw [Heap.set_ne h1]
    by_cases h2 : k = j
    · subst h2; rw [Heap.set_same, Heap.set_same]
    · rw [Heap.set_ne h2, Heap.set_ne h2, Heap.set_ne h1]
theorem SlO.cell {sz : Nat} {els : List (List AV)} {h h' : Heap} {i : Nat} {N : Node} {x : AV} (hs : SlO sz els (h.set i N) x h') : h' i = some N := by
  rcases hs with ⟨rfl, rfl, rfl⟩ | ⟨hne, id, hi, rfl, rfl⟩
  · exact Heap.set_same h i N
  · have : id ≠ i := fun e => by subst e; rw [Heap.set_same] at hi; cases hi
    rw [Heap.set_ne (fun e => this e.symm), Heap.set_same]
theorem SlO.base {sz : Nat} {els : List (List AV)} {h h' : Heap} {i : Nat} {N : Node} {x : AV} (hs : SlO sz els (h.set i N) x h') (N' : Node) : SlO sz els (h.set i N') x (h'.set i N') := by
  rcases hs with ⟨rfl, rfl, rfl⟩ | ⟨hne, id, hi, rfl, rfl⟩
  · exact .inl ⟨rfl, rfl, by rw [Heap.set_set]⟩
  · have h1 : id ≠ i := fun e => by subst e; rw [Heap.set_same] at hi; cases hi
    refine .inr ⟨hne, id, ?_, rfl, ?_⟩
    · rw [Heap.set_ne h1] at hi ⊢; exact hi
    · rw [Heap.set_comm (h := h.set i N) h1, Heap.set_set]
/-- A cell that holds a slice that a call has appended to. -/
def FO (zs : List Int) (h : Heap) (i : Nat) (h' : Heap) : Prop := ∃ x, SlO 1 (ints zs) (h.set i (.arr 1 [[x]])) x h'
mutual
def occ : Tm → List Int
  | .mk a us => occL us ++ (if a.1 = 0 then [a.2] else [])
def occL : List Tm → List Int
  | [] => []
  | u :: us => occ u ++ occL us
end
theorem occL_snoc {l : List Tm} {k : Nat} (hk : k < l.length) : occL (l.take (k + 1)) = occL (l.take k) ++ occ l[k] := by
  induction l generalizing k with
  | nil => simp at hk
  | cons u l ih =>
    cases k with
    | zero => simp [occL]
    | succ k => simp only [List.take_succ_cons, occL, ih (by simpa using hk), List.append_assoc, List.getElem_cons_succ]
theorem occ_len (t : Tm) : (occ t).length ≤ t.nodes := by
  refine Rt.ind (P := fun t => (occ t).length ≤ t.nodes) (fun a us ih => ?_) t
  have key : (occL us).length ≤ Rt.nodesL us := by
    induction us with
    | nil => simp [occL, Rt.nodesL]
    | cons u us ih2 =>
      have h1 := ih u (by simp)
      have h2 := ih2 fun t ht => ih t (by simp [ht])
      simp only [occL, Rt.nodesL, List.length_append]; omega
  simp only [occ, Rt.nodes, List.length_append]
  split <;> simp <;> omega
theorem occL_take_len (us : List Tm) (k : Nat) : (occL (us.take k)).length ≤ Rt.nodesL us := by
  induction us generalizing k with
  | nil => simp [occL]
  | cons u us ih =>
    cases k with
    | zero => simp [occL]
    | succ k =>
      have := ih k
      have h1 := occ_len u
      simp only [List.take_succ_cons, occL, Rt.nodesL, List.length_append]; omega
def nng (l : List Int) : Bool := l.all fun v => decide (0 ≤ v)
theorem nng_app (a b : List Int) : nng (a ++ b) = (nng a && nng b) := by simp [nng]
theorem term_Free_1_c (a : Int × Int) (us : List Tm) {zs : List Int} {h h' : Heap} {i : Nat} (hs : FO zs h i h') (hz : (zs.length + 1) * 8 ≤ 140737488355328) {Q : AV → Heap → Prop}
    (hq : ∀ h2, FO (zs ++ (if a.1 = 0 then [a.2] else [])) h i h2 → Q (B (nng (if a.1 = 0 then [a.2] else []))) h2) : ACalls prog n_term_Free_1 [tm (.mk a us), .op i 0 0] h' Q := by
  refine term_Free_1_call ?_
  unfold term_Free_1 tm
  obtain ⟨x, hs⟩ := hs
  have hc := hs.cell
  simp [tmC]
  by_cases k0 : a.1 = 0
  · simp [k0] at hq ⊢
    rw [w_loadV_op hc]
    simp
    refine hs.app (by simp; omega) fun x2 h2 hs2 => ?_
    rw [hs2.one, w_store hs2.cell]
    simp [splice]
    refine retA_of ?_
    have := hq _ ⟨x2, by rw [ints_app]; exact hs2.base (.arr 1 [[x2]])⟩
    simpa [nng] using this
  · simp [k0] at hq ⊢
    exact retA_of (hq h' ⟨x, hs⟩)
theorem term_visit_free (t : Tm) : ∀ {zs : List Int} {h h' : Heap} {i : Nat} {Q : AV → Heap → Prop}, FO zs h i h' → (zs.length + t.nodes + 1) * 8 ≤ 140737488355328 →
    (nng (occ t) = true → ∀ h2, FO (zs ++ occ t) h i h2 → Q (B true) h2) → (nng (occ t) = false → ∀ ys h2, FO ys h i h2 → Q (B false) h2) → ACalls prog n_term_visit [tm t, .fn 128 [.op i 0 0]] h' Q := by
  refine Rt.ind (P := fun t => ∀ {zs : List Int} {h h' : Heap} {i : Nat} {Q : AV → Heap → Prop}, FO zs h i h' → (zs.length + t.nodes + 1) * 8 ≤ 140737488355328 →
    (nng (occ t) = true → ∀ h2, FO (zs ++ occ t) h i h2 → Q (B true) h2) → (nng (occ t) = false → ∀ ys h2, FO ys h i h2 → Q (B false) h2) → ACalls prog n_term_visit [tm t, .fn 128 [.op i 0 0]] h' Q) (fun a us ih => ?_) t
  intro zs h h' i Q hs hm hT hF
  refine term_visit_call ?_
  unfold term_visit tm
  simp only [Rt.nodes] at hm
  have hlen := Rt.length_le us
  simp [tmC]
  refine loop_up us.length (fun k σ h2 => σ = [I k] ∧ FO (zs ++ occL (us.take k)) h i h2 ∧ nng (occL (us.take k)) = true) ⟨rfl, by simpa [occL] using hs, rfl⟩ (fun k σ' h' ⟨e, _⟩ => by rw [e]; rfl) ?_
  rintro k σ' h2 K hk ⟨rfl, hs2, hn⟩ hK
  have htl := occL_take_len us k
  by_cases hlt : k < us.length
  · have hlt' : (k : Int) < us.length := by omega
    have hkn := kid_nodes hlt
    have h1 := Rt.nodesL_take_succ hlt
    have h3 := Rt.nodesL_take_le us (k + 1)
    have h4 : (occL (us.take k)).length ≤ Rt.nodesL (us.take k) := by have := occL_take_len (us.take k) (us.take k).length; rw [List.take_length] at this; exact this
    simp [hlt', hlt]
    refine callS_of ?_
    rw [tm_eta]
    refine ih us[k] (List.getElem_mem hlt) hs2 (by simp only [List.length_append]; omega) (fun hv h3 hs3 => ?_) (fun hv ys h3 hs3 => ?_)
    · simp [wrap_k (k := k) (by omega)]
      refine hK hlt _ _ ⟨rfl, by rw [occL_snoc hlt, ← List.append_assoc]; exact hs3, by rw [occL_snoc hlt, nng_app, hn, hv]; rfl⟩
    · simp
      refine retA_of (hF ?_ ys h3 hs3)
      have : ∀ (l : List Tm), us[k] ∈ l → nng (occL l) = false := fun l => by
        induction l with
        | nil => intro h; cases h
        | cons u l ihl =>
          intro hm
          simp only [occL, nng_app]
          rcases List.mem_cons.1 hm with e | e
          · rw [← e, hv]; rfl
          · rw [ihl e]; simp
      rw [occ, nng_app, this us (List.getElem_mem hlt)]; rfl
  · have hkn : k = us.length := by omega
    subst hkn
    rw [List.take_length] at hs2 hn htl
    simp
    refine callS_of ?_
    rw [show (.agg [I a.1, I a.2, .rs 3 (tmCs us)] : AV) = tm (.mk a us) from rfl]
    refine term_Free_1_c a us hs2 (by simp only [List.length_append]; omega) fun h3 hs3 => ?_
    have e : nng (occ (.mk a us)) = nng (if a.1 = 0 then [a.2] else []) := by rw [occ, nng_app, hn, Bool.true_and]
    rw [← e]
    cases hv : nng (occ (.mk a us)) with
    | true => exact retA_of (hT hv h3 (by rw [occ, ← List.append_assoc]; exact hs3))
    | false => exact retA_of (hF hv _ h3 hs3)
end Am
