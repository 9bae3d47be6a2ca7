/- turn: it changes its own list, and nothing else. -/
import Derived.Test.YtoifckjdnldlpaaLq
set_option linter.unusedVariables false
set_option linter.unusedSimpArgs false
namespace Am
open Go Go.Proofs.Try
theorem w_xor (kd : IntKind) (a b : Int) (k : AV → Prop) : binA .xor (.val (.int kd a)) (.val (.int kd b)) k = k (.val (.int kd (kd.wrap (BitVec.ofInt kd.bits a ^^^ BitVec.ofInt kd.bits b).toNat))) := by simp [binA, abin, intBin]
theorem OE.at {us : List Tm} : ∀ {h : Heap} {L : List Nat} {els : List (List AV)} {k : Nat}, OE h us L els → (hk : k < us.length) →
    ∃ L1 x, els.getD k [] = [I us[k].lab.1, I us[k].lab.2, x] ∧ OL h us[k].kids L1 x ∧ (∀ j, j ∈ L1 → j ∈ L) ∧
      ∀ h' t' c', (∀ j, j ∈ L → ¬ j ∈ L1 → h' j = h j) → OT h' t' L1 c' → OE h' (us.set k t') L (els.set k c') := by
  induction us with
  | nil => intro h L els k H hk; simp at hk
  | cons u us ih =>
    intro h L els k H hk
    rw [OE] at H
    obtain ⟨L1, L2, c, r, rfl, rfl, hd, h1, h2⟩ := H
    cases k with
    | zero =>
      obtain ⟨a, kids⟩ := u
      obtain ⟨x, rfl, hx⟩ := OT_iff.1 h1
      refine ⟨L1, x, rfl, hx, fun j hj => by simp [hj], fun h' t' c' hf ht => ?_⟩
      simp only [List.set_cons_zero]
      rw [OE]
      exact ⟨L1, L2, c', r, rfl, rfl, hd, ht, OE.frame (fun j hj => hf j (by simp [hj]) fun e => hd j e hj) h2⟩
    | succ k =>
      obtain ⟨M, x, e1, e2, e3, e4⟩ := ih h2 (k := k) (by simpa using hk)
      refine ⟨M, x, by simpa using e1, e2, fun j hj => by simp [e3 j hj], fun h' t' c' hf ht => ?_⟩
      simp only [List.set_cons_succ]
      rw [OE]
      exact ⟨L1, L2, c, r.set k c', rfl, rfl, hd, OT.frame u (fun j hj => hf j (by simp [hj]) fun e => hd j hj (e3 j e)) h1, e4 h' t' c' (fun j hj hn => hf j (by simp [hj]) hn) ht⟩
theorem turn_c (t : Tm) : ∀ {h : Heap} {L : List Nat} {x : AV} {Q : AV → Heap → Prop}, OL h t.kids L x → t.nodes ≤ 4611686018427387904 → (∀ h' us', OL h' us' L x → us'.length = t.kids.length → (∀ j, ¬ j ∈ L → h' j = h j) → Q (.tup []) h') → ACalls prog n_vlaw02_turn [x] h Q := by
  refine Rt.ind (P := fun t => ∀ {h : Heap} {L : List Nat} {x : AV} {Q : AV → Heap → Prop}, OL h t.kids L x → t.nodes ≤ 4611686018427387904 → (∀ h' us', OL h' us' L x → us'.length = t.kids.length → (∀ j, ¬ j ∈ L → h' j = h j) → Q (.tup []) h') → ACalls prog n_vlaw02_turn [x] h Q) (fun a us ih => ?_) t
  intro h L x Q hs hm hq
  simp only [Rt.kids] at hs hq
  simp only [Rt.nodes] at hm
  have hlen := Rt.length_le us
  refine vlaw02_turn_call ?_
  unfold vlaw02_turn
  rcases hs with ⟨rfl, rfl, rfl⟩ | ⟨hne, id, els, L', rfl, rfl, h1, h2, h3⟩
  · simp
    refine loop_ix 0 (fun _ => True) trivial fun k hk _ K hK => ?_
    obtain rfl : k = 0 := by omega
    simp
    exact retA_of (hq h [] (.inl ⟨rfl, rfl, rfl⟩) rfl fun _ _ => rfl)
  · simp
    refine loop_up us.length (fun k σ h2 => ∃ us2 els2, σ = [I k] ∧ us2.length = us.length ∧ us2.drop k = us.drop k ∧ h2 id = some (.arr 3 els2) ∧ OE h2 us2 L' els2 ∧ ∀ j, ¬ j ∈ id :: L' → h2 j = h j) ⟨us, els, rfl, rfl, rfl, h1, h3, fun _ _ => rfl⟩ (fun k σ' h' ⟨_, _, e, _⟩ => by rw [e]; rfl) ?_
    rintro k σ' h4 K hk ⟨us2, els2, rfl, hl2, hd2, hi2, he2, hf2⟩ hK
    have hel := he2.len
    by_cases hlt : k < us.length
    · have hlt' : (k : Int) < us.length := by omega
      have hlt2 : k < us2.length := by omega
      have hu : us2[k] = us[k] := by
        have := congrArg (fun l => l[0]?) hd2
        simp only [List.getElem?_drop, Nat.add_zero] at this
        rw [List.getElem?_eq_getElem hlt2, List.getElem?_eq_getElem hlt] at this
        exact Option.some.inj this
      obtain ⟨L1, x, e1, e2, e3, e4⟩ := he2.at hlt2
      rw [hu] at e1 e2
      have hkn := kid_nodes hlt
      have hel2 : k < els2.length := by omega
      have hid1 : ¬ id ∈ L1 := fun e => h2 (e3 id e)
      simp only [g_0, w_lss, hlt', decide_true, w_brA, if_true]
      rw [w_idx_os hi2]
      refine ⟨rfl, by omega, by omega, by omega, ?_⟩
      rw [w_fld_op, w_loadV_op hi2, Int.toNat_natCast, e1]
      refine ⟨hel2, by omega, ?_⟩
      refine callS_of (ih us[k] (List.getElem_mem hlt) (L := L1) e2 (by omega) fun h5 ks hs5 hl5 hf5 => ?_)
      have hi5 : h5 id = some (.arr 3 els2) := by rw [hf5 id hid1]; exact hi2
      rw [w_idx_os hi5]
      refine ⟨rfl, by omega, by omega, by omega, ?_⟩
      rw [w_fld_op, w_loadV_op hi5, Int.toNat_natCast, e1]
      refine ⟨hel2, by omega, ?_⟩
      simp only [g, List.getD_cons_succ, List.getD_cons_zero, w_xor]
      generalize IntKind.i64.wrap _ = v
      rw [w_idx_os hi5]
      refine ⟨rfl, by omega, by omega, by omega, ?_⟩
      rw [w_fld_op]
      show oneA (.val (.int .i64 v)) _
      rw [show oneA (.val (.int .i64 v)) = fun k => k from rfl]
      show storeG _ _ _ _
      rw [w_store hi5, Int.toNat_natCast, e1]
      refine ⟨hel2, by simp, ?_⟩
      have hsp : splice [I us[k].lab.1, I us[k].lab.2, x] (0 + 1) [.val (.int .i64 v)] = [I us[k].lab.1, I v, x] := rfl
      rw [hsp, w_add, wrap_k (k := k) (by omega)]
      refine hK hlt _ _ ⟨us2.set k (.mk (us[k].lab.1, v) ks), els2.set k [I us[k].lab.1, I v, x], rfl, by simp [hl2], ?_, Heap.set_same _ _ _, ?_, ?_⟩
      · rw [List.drop_set_of_lt (by omega)]
        have := congrArg (List.drop 1) hd2
        simpa using this
      · refine e4 _ _ _ (fun j hj hn => ?_) (OT_iff.2 ⟨x, rfl, OL.frame (fun j hj => Heap.set_ne fun e => hid1 (e ▸ hj)) hs5⟩)
        rw [Heap.set_ne (fun e : j = id => h2 (e ▸ hj)), hf5 j hn]
      · intro j hj
        have hj' := hj
        simp only [List.mem_cons, not_or] at hj'
        rw [Heap.set_ne hj'.1, hf5 j (fun e => hj'.2 (e3 j e)), hf2 j hj]
    · have hkn : k = us.length := by omega
      subst hkn
      simp
      refine retA_of (hq h4 us2 (.inr ⟨?_, id, els2, L', rfl, by rw [hl2], hi2, h2, he2⟩) hl2 hf2)
      intro e; rw [e] at hl2; simp at hl2; exact hne (List.eq_nil_of_length_eq_zero hl2.symm)
end Am
