/- flow.nodes: a body's nodes in preorder, each with the indexes of its arguments. -/
import Derived.Test.YtoifckjdnldlpaaGreatZUh
import Derived.Test.YtoifckjdnldlpaaGreatZP0
import Derived.Test.YtoifckjdnldlpaaGreatZFW
set_option linter.unusedVariables false
set_option linter.unusedSimpArgs false
namespace Am
open Go Go.Proofs.Tryz
def ixL : Nat → List Tm → List Nat
  | _, [] => []
  | i, t :: ts => i :: ixL (i + t.nodes) ts
mutual
def ndF : Nat → Tm → List (Tm × List Nat)
  | i, .mk a us => (.mk a us, ixL (i + 1) us) :: ndFL (i + 1) us
def ndFL : Nat → List Tm → List (Tm × List Nat)
  | _, [] => []
  | i, t :: ts => ndF i t ++ ndFL (i + t.nodes) ts
end
theorem ixL_len (us : List Tm) : ∀ i, (ixL i us).length = us.length := by
  induction us with
  | nil => intro i; rfl
  | cons t us ih => intro i; simp [ixL, ih]
theorem ixL_app (us : List Tm) (t : Tm) : ∀ i, ixL i (us ++ [t]) = ixL i us ++ [i + Rt.nodesL us] := by
  induction us with
  | nil => intro i; simp [ixL, Rt.nodesL]
  | cons u us ih => intro i; simp only [List.cons_append, ixL, ih, Rt.nodesL, Nat.add_assoc]
theorem ndFL_app (us : List Tm) (t : Tm) : ∀ i, ndFL i (us ++ [t]) = ndFL i us ++ ndF (i + Rt.nodesL us) t := by
  induction us with
  | nil => intro i; simp [ndFL, Rt.nodesL]
  | cons u us ih => intro i; simp only [List.cons_append, ndFL, ih, Rt.nodesL, Nat.add_assoc, List.append_assoc]
theorem ndFL_len (us : List Tm) : (∀ t, t ∈ us → ∀ i, (ndF i t).length = t.nodes) → ∀ i, (ndFL i us).length = Rt.nodesL us := by
  induction us with
  | nil => intro _ i; rfl
  | cons u us ih => intro h i; simp [ndFL, Rt.nodesL, h u (by simp), ih fun t ht => h t (by simp [ht])]
theorem ndF_len (t : Tm) : ∀ i, (ndF i t).length = t.nodes := by
  refine Rt.ind (P := fun t => ∀ i, (ndF i t).length = t.nodes) (fun a us ih => ?_) t
  intro i
  simp [ndF, Rt.nodes, ndFL_len us ih, Nat.add_comm]
theorem ndFL_len' (us : List Tm) (i : Nat) : (ndFL i us).length = Rt.nodesL us := ndFL_len us (fun t _ => ndF_len t) i
theorem ndF_fst (t : Tm) : ∀ i, (ndF i t).map (·.1) = preT_ t := by
  refine Rt.ind (P := fun t => ∀ i, (ndF i t).map (·.1) = preT_ t) (fun a us ih => ?_) t
  intro i
  have : ∀ (l : List Tm), (∀ t, t ∈ l → ∀ i, (ndF i t).map (·.1) = preT_ t) → ∀ i, (ndFL i l).map (·.1) = preL l := fun l => by
    induction l with
    | nil => intro _ i; rfl
    | cons u l ihl => intro h i; simp only [ndFL, preL, List.map_append]; rw [h u (by simp), ihl fun t ht => h t (by simp [ht])]
  simp only [ndF, preT_, List.map_cons, this us ih]
def ndC (x : Tm × List Nat) : List AV := [.ro (tmC x.1), .rs 1 (nCs x.2)]
def ndCs (l : List (Tm × List Nat)) : List (List AV) := l.map ndC
@[simp] theorem ndCs_len (l : List (Tm × List Nat)) : (ndCs l).length = l.length := by simp [ndCs]
@[simp] theorem nCs_len (l : List Nat) : (nCs l).length = l.length := by simp [nCs]
theorem ndCs_get {l : List (Tm × List Nat)} {k : Nat} (hk : k < l.length) : (ndCs l).getD k [] = ndC l[k] := by simp [ndCs, List.getD_eq_getElem?_getD, hk]
theorem nCs_get {l : List Nat} {k : Nat} (hk : k < l.length) : (nCs l).getD k [] = [I (l[k] : Nat)] := by simp [nCs, List.getD_eq_getElem?_getD, hk]
theorem nCs_szN (l : List Nat) (i : Nat) (hi : i < (nCs l).length) : ((nCs l).getD i []).length = 1 := by
  rw [nCs_get (by simpa using hi)]; rfl
theorem Ow.len {h h' : Heap} {sz : Nat} {els : List (List AV)} {x : AV} (H : Ow h h' sz els x) (k : AV → Prop) : lenA x k = k (I els.length) := by
  rcases H with ⟨rfl, rfl⟩ | ⟨hne, id, rfl, _⟩ <;> rfl
theorem Ow.os {h h' : Heap} {sz : Nat} {els : List (List AV)} {x : AV} (H : Ow h h' sz els x) (hne : els ≠ []) : ∃ id, x = .os id els.length ∧ h' id = some (.arr sz els) ∧ h id = none := by
  rcases H with ⟨rfl, rfl⟩ | ⟨_, H⟩
  · exact absurd rfl hne
  · exact H
theorem Ow.to {h h' g g' : Heap} {sz : Nat} {els : List (List AV)} {x : AV} (H : Ow h h' sz els x) (ht : ∀ id, h' id = some (.arr sz els) → h id = none → g' id = some (.arr sz els) ∧ g id = none) : Ow g g' sz els x := by
  rcases H with H | ⟨hne, id, rfl, h1, h2⟩
  · exact .inl H
  · obtain ⟨a, b⟩ := ht id h1 h2
    exact .inr ⟨hne, id, rfl, a, b⟩
theorem frz_el {h : Heap} {O n sz : Nat} {els : List (List AV)} {y y' : AV} {cs : List AV} {j : Nat} {z : Heap} (hO : h O = some (.arr sz els)) (hn : n < els.length) (hc : els.getD n [] = cs) (hl : cs.length = sz)
    (hz : ∀ i, i < els.length → (els.getD i []).length = sz) (hr : Ref h z (g cs j) y') (hj : j < sz) (hzO : z O = some (.arr sz (els.set n (cs.set j y')))) (hzf : ∀ i m, i ≠ O → z i = some m → h i = some m) : HRef h z := fun i m hi => by
  by_cases e : i = O
  · subst e
    rw [hzO] at hi
    cases hi
    refine ⟨_, hO, .arr (by simp) (fun k hk => ?_) fun k q hk hq => ?_⟩
    · rw [List.getD_eq_getElem?_getD, List.getElem?_set]
      by_cases e : n = k
      · subst e; simp [hn, hl]
      · rw [if_neg e, ← List.getD_eq_getElem?_getD]; exact hz k hk
    · rw [List.getD_eq_getElem?_getD (l := els.set n _), List.getElem?_set]
      by_cases e : n = k
      · subst e
        simp only [hn, if_true, Option.getD_some, hc]
        by_cases e2 : q = j
        · subst e2
          have : g (cs.set q y') q = y' := by simp [g, List.getD_eq_getElem?_getD, hl, hj]
          rw [this]; exact hr
        · have : g (cs.set j y') q = g cs q := by
            simp only [g, List.getD_eq_getElem?_getD, List.getElem?_set]
            rw [if_neg (fun e => e2 e.symm)]
          rw [this]; exact .refl
      · rw [if_neg e, ← List.getD_eq_getElem?_getD]; exact .refl
  · exact ⟨m, hzf i m e hi, .refl⟩
def VisN (t : Tm) : Prop := ∀ {hb h : Heap} {p1 p3 : Nat} {els : List (List AV)} {x : AV} {Q : AV → Heap → Prop}, hb p3 = some (.arr 1 [[.fn 154 [.op p1 0 0, .op p3 0 0]]]) → h p1 = some (.arr 1 [[x]]) → hb p1 = none → Ow hb h 2 els x → Fr hb h → (∀ i, i < els.length → (els.getD i []).length = 2) → els.length + t.nodes ≤ 1000000000 →
  (∀ x' h', h' p1 = some (.arr 1 [[x']]) → Ow hb h' 2 (els ++ ndCs (ndF els.length t)) x' → Fr hb h' → Q (.tup []) h') → ACalls prog 154 [.ro (tmC t), .op p1 0 0, .op p3 0 0] h Q
theorem flow_nodes_1_c (t : Tm) : VisN t := by
  refine Rt.ind (P := VisN) (fun a us ih => ?_) t
  intro hb h p1 p3 els x Q h3 h1 hb1 ho hfr hsz hn hq
  simp only [Rt.nodes] at hn
  have n31 : p3 ≠ p1 := fun e => by subst e; rw [h3] at hb1; cases hb1
  refine flow_nodes_1_call ?_
  unfold flow_nodes_1
  refine load_one h1 ?_
  rw [ho.len]
  refine load_one h1 ?_
  simp only [tmC, w_one_ro]
  have hop : ∀ id, h id = some (.arr 2 els) → id ≠ p1 := fun id hid e => by subst e; rw [h1] at hid; cases hid
  have ho' : Ow (hb.set p1 (.arr 1 [[x]])) h 2 els x := ho.to fun id a b => ⟨a, by rw [Heap.set_ne (hop id a)]; exact b⟩
  have hfr' : Fr (hb.set p1 (.arr 1 [[x]])) h := fun j n hj => by
    by_cases e : j = p1
    · subst e; rw [Heap.set_same] at hj; cases hj; exact h1
    · rw [Heap.set_ne e] at hj; exact hfr j n hj
  refine ho'.app (by simp) hfr' (by simp only [List.length_cons, List.length_nil]; omega) fun x4 h5 ho5 hfr5 _ => ?_
  rw [ho5.one]
  refine set_one (x := x) (hfr5 p1 _ (Heap.set_same _ _ _)) ?_
  simp only [w_nil_ro, w_fld_ro, List.drop_succ_cons, List.drop_zero, w_loadV_ro, w_len_rs, tmCs_len]
  have dn : (els ++ [[AV.ro [I a.1, I a.2, .rs 3 (tmCs us)], .e0]]).length = els.length + 1 := by simp
  refine loop_up us.length (fun i σ h' => σ = [I i] ∧ ∃ x y, h' p1 = some (.arr 1 [[x]]) ∧ Ow hb h' 2 (els ++ [[.ro (tmC (.mk a us)), y]] ++ ndCs (ndFL (els.length + 1) (us.take i))) x ∧ Fr hb h' ∧ Ow (hb.set p1 (.arr 1 [[x]])) h' 1 (nCs (ixL (els.length + 1) (us.take i))) y)
    ⟨rfl, x4, .e0, Heap.set_same _ _ _, ?_, fun j n hj => ?_, .inl ⟨by simp [ixL, nCs], rfl⟩⟩ (fun k σ' h' ⟨e, _⟩ => by rw [e]; rfl) ?_
  · simp only [List.take_zero, ndFL, ndCs, List.map_nil, List.append_nil]
    refine ho5.to fun id a b => ?_
    have : id ≠ p1 := fun e => by subst e; rw [Heap.set_same] at b; cases b
    exact ⟨by rw [Heap.set_ne this]; exact a, by rw [Heap.set_ne this] at b; exact b⟩
  · have : j ≠ p1 := fun e => by subst e; rw [hb1] at hj; cases hj
    rw [Heap.set_ne this]; exact hfr5 j n (by rw [Heap.set_ne this]; exact hj)
  rintro i σ h6 K hi ⟨rfl, x, y, e1, oX, fX, oY⟩ hK
  obtain ⟨O, rfl, hO, hbO⟩ := oX.os (by simp)
  have nO1 : O ≠ p1 := fun e => by subst e; rw [e1] at hO; cases hO
  have hlen : (els ++ [[.ro (tmC (.mk a us)), y]] ++ ndCs (ndFL (els.length + 1) (us.take i))).length = els.length + 1 + Rt.nodesL (us.take i) := by
    simp only [List.length_append, List.length_cons, List.length_nil, ndCs_len, ndFL_len']
  have hnl : Rt.nodesL (us.take i) ≤ Rt.nodesL us := Rt.nodesL_take_le us i
  have hget : (els ++ [[AV.ro (tmC (.mk a us)), y]] ++ ndCs (ndFL (els.length + 1) (us.take i))).getD els.length [] = [.ro (tmC (.mk a us)), y] := by
    simp [List.getD_eq_getElem?_getD]
  have hset : ∀ z, (els ++ [[AV.ro (tmC (.mk a us)), y]] ++ ndCs (ndFL (els.length + 1) (us.take i))).set els.length [.ro (tmC (.mk a us)), z] = els ++ [[.ro (tmC (.mk a us)), z]] ++ ndCs (ndFL (els.length + 1) (us.take i)) := fun z => by
    simp [List.set_append]
  have hszE : ∀ z, ∀ q, q < (els ++ [[AV.ro (tmC (.mk a us)), z]] ++ ndCs (ndFL (els.length + 1) (us.take i))).length → ((els ++ [[AV.ro (tmC (.mk a us)), z]] ++ ndCs (ndFL (els.length + 1) (us.take i))).getD q []).length = 2 := fun z q hq => by
    rw [List.append_assoc] at hq ⊢
    by_cases c1 : q < els.length
    · have := hsz q c1
      rw [List.getD_eq_getElem?_getD] at this ⊢
      rw [List.getElem?_append_left c1]; exact this
    · rw [List.getD_eq_getElem?_getD, List.getElem?_append_right (by omega)]
      cases hq2 : q - els.length with
      | zero => rfl
      | succ m =>
        simp only [List.singleton_append, List.getElem?_cons_succ]
        rw [← List.getD_eq_getElem?_getD, ndCs_get (by simp only [List.length_append, List.length_cons, List.length_nil, ndCs_len] at hq; omega)]
        rfl
  simp only [g_0]
  by_cases hlt : i < us.length
  · have hlt' : (i : Int) < us.length := by omega
    have hnk : Rt.nodesL (us.take (i + 1)) = Rt.nodesL (us.take i) + us[i].nodes := Rt.nodesL_take_succ hlt
    have hnl2 := Rt.nodesL_take_le us (i + 1)
    have htk : us.take (i + 1) = us.take i ++ [us[i]] := List.take_succ_eq_append_getElem hlt
    simp only [w_lss, hlt', decide_true, w_brA, if_true]
    refine load_one e1 ?_
    refine load_one e1 ?_
    rw [w_idx_os hO]
    refine ⟨rfl, by omega, by rw [hlen]; omega, Nat.le_refl _, ?_⟩
    simp only [w_fld_op, Int.toNat_natCast, Nat.zero_add]
    rw [w_loadV_op hO, hget]
    refine ⟨by rw [hlen]; omega, by omega, ?_⟩
    simp only [g_1]
    refine load_one e1 ?_
    rw [oX.len, hlen, w_one_v]
    have oX' : Ow (hb.set p1 (.arr 1 [[.os O (els ++ [[.ro (tmC (.mk a us)), y]] ++ ndCs (ndFL (els.length + 1) (us.take i))).length]])) h6 2 (els ++ [[.ro (tmC (.mk a us)), y]] ++ ndCs (ndFL (els.length + 1) (us.take i))) (.os O (els ++ [[.ro (tmC (.mk a us)), y]] ++ ndCs (ndFL (els.length + 1) (us.take i))).length) :=
      oX.to fun id a b => ⟨a, by rw [Heap.set_ne (fun e => by subst e; rw [e1] at a; cases a)]; exact b⟩
    have fX' : Fr (hb.set p1 (.arr 1 [[.os O (els ++ [[.ro (tmC (.mk a us)), y]] ++ ndCs (ndFL (els.length + 1) (us.take i))).length]])) h6 := fun j n hj => by
      by_cases e : j = p1
      · subst e; rw [Heap.set_same] at hj; cases hj; exact e1
      · rw [Heap.set_ne e] at hj; exact fX j n hj
    refine oY.app (by simp) fX' (by simp only [nCs_len, ixL_len, List.length_take, List.length_cons, List.length_nil]; have := Rt.length_le us; omega) fun y2 h22 oY2 fX2 ot => ?_
    have oX2 := ot 2 _ _ (by decide) oX'
    have e1' := fX2 p1 _ (Heap.set_same _ _ _)
    obtain ⟨O2, eO2, hO2, hbO2⟩ := oX2.os (by simp)
    cases eO2
    refine ⟨load_one e1' (by rw [hlen]), ?_⟩
    rw [w_idx_os hO2]
    refine ⟨rfl, by omega, by omega, by rw [hlen]; omega, ?_⟩
    simp only [w_fld_op, Int.toNat_natCast, Nat.zero_add]
    rw [oY2.one, w_store hO2, hget]
    refine ⟨by rw [hlen]; omega, by simp, ?_⟩
    have hsp : splice [AV.ro (tmC (.mk a us)), y] 1 [y2] = [.ro (tmC (.mk a us)), y2] := rfl
    rw [hsp, hset]
    obtain ⟨A, hyA, hA, hbA⟩ := oY2.os (by simp)
    have nA1 : A ≠ p1 := fun e => by subst e; rw [Heap.set_same] at hbA; cases hbA
    have hbA' : hb A = none := by rw [Heap.set_ne nA1] at hbA; exact hbA
    have nAO : A ≠ O := fun e => by subst e; rw [hA] at hO2; cases hO2
    have nA3 : A ≠ p3 := fun e => by subst e; rw [hbA'] at h3; cases h3
    have nO3 : O ≠ p3 := fun e => by subst e; rw [hbO] at h3; cases h3
    have fX3 : Fr hb h22 := fun j n hj => fX2 j n (by rw [Heap.set_ne (fun e => by subst e; rw [hb1] at hj; cases hj)]; exact hj)
    refine load_one (x := .fn 154 [.op p1 0 0, .op p3 0 0]) (by rw [Heap.set_ne nO3.symm]; exact fX3 p3 _ h3) ?_
    simp only [w_nil_ro, w_fld_ro, List.drop_succ_cons, List.drop_zero, w_loadV_ro, w_idx_rs, tmCs_len, Int.toNat_natCast]
    refine ⟨trivial, by omega, hlt', ?_⟩
    have hk : (tmCs us).getD i [] = tmC us[i] := by simp [tmCs_eq, List.getD_eq_getElem?_getD, hlt]
    rw [hk, w_callV]
    refine callS_of ?_
    let els2 := els ++ [[AV.ro (tmC (.mk a us)), y2]] ++ ndCs (ndFL (els.length + 1) (us.take i))
    have hl2 : els2.length = els.length + 1 + Rt.nodesL (us.take i) := by
      simp only [els2, List.length_append, List.length_cons, List.length_nil, ndCs_len, ndFL_len']
    show ACalls prog 154 [.ro (tmC us[i]), .op p1 0 0, .op p3 0 0] (h22.set O (.arr 2 els2)) _
    have hxl : (els ++ [[AV.ro (tmC (.mk a us)), y]] ++ ndCs (ndFL (els.length + 1) (us.take i))).length = els2.length := by rw [hlen, hl2]
    refine ih us[i] (List.getElem_mem hlt) (hb := hb.set A (.arr 1 (nCs (ixL (els.length + 1) (us.take i)) ++ [[I ((els.length + 1 + Rt.nodesL (us.take i) : Nat) : Int)]]))) (els := els2) (x := .os O els2.length) (by rw [Heap.set_ne nA3.symm]; exact h3) (by rw [Heap.set_ne nO1.symm, e1', hxl]) (by rw [Heap.set_ne nA1.symm]; exact hb1)
      (.inr ⟨by simp [els2], O, rfl, Heap.set_same _ _ _, by rw [Heap.set_ne nAO.symm]; exact hbO⟩) (fun j n hj => ?_) (hszE y2) (by rw [hl2]; omega) fun x' h' q1 q2 q3 => ?_
    · by_cases e : j = A
      · subst e; rw [Heap.set_same] at hj; cases hj; rw [Heap.set_ne nAO]; exact hA
      · rw [Heap.set_ne e] at hj
        rw [Heap.set_ne (fun e => by subst e; rw [hbO] at hj; cases hj)]; exact fX3 j n hj
    · rw [w_add, wrap_k (k := i) (by have := Rt.length_le us; omega)]
      have hA' := q3 A _ (Heap.set_same _ _ _)
      have nA1' : ∀ z, (hb.set p1 z) A = none := fun z => by rw [Heap.set_ne nA1]; exact hbA'
      refine hK hlt _ _ ⟨rfl, x', y2, q1, ?_, fun j n hj => q3 j n (by rw [Heap.set_ne (fun e => by subst e; rw [hbA'] at hj; cases hj)]; exact hj), ?_⟩
      · rw [htk, ndFL_app]
        have e2 : els ++ [[AV.ro (tmC (.mk a us)), y2]] ++ ndCs (ndFL (els.length + 1) (us.take i) ++ ndF (els.length + 1 + Rt.nodesL (us.take i)) us[i]) = els2 ++ ndCs (ndF els2.length us[i]) := by
          rw [hl2]; simp [els2, ndCs]
        rw [e2]
        refine q2.to fun id a b => ⟨a, ?_⟩
        have : id ≠ A := fun e => by subst e; rw [Heap.set_same] at b; cases b
        rw [Heap.set_ne this] at b; exact b
      · have e3 : nCs (ixL (els.length + 1) (us.take (i + 1))) = nCs (ixL (els.length + 1) (us.take i)) ++ [[I ((els.length + 1 + Rt.nodesL (us.take i) : Nat) : Int)]] := by
          rw [htk, ixL_app]; simp [nCs]
        rw [e3]
        refine .inr ⟨by simp, A, hyA, hA', nA1' _⟩
  · have hiu : i = us.length := by omega
    subst hiu
    simp only [w_lss, Int.lt_irrefl, decide_false, w_brA, Bool.false_eq_true, if_false]
    rw [List.take_length] at oX oY hO hget hset hszE hlen
    have hfin : els ++ ndCs (ndF els.length (.mk a us)) = els ++ [[AV.ro (tmC (.mk a us)), .rs 1 (nCs (ixL (els.length + 1) us))]] ++ ndCs (ndFL (els.length + 1) us) := by
      simp [ndF, ndCs, ndC]
    have hnlt : els.length < (els ++ [[AV.ro (tmC (.mk a us)), y]] ++ ndCs (ndFL (els.length + 1) us)).length := by rw [hlen]; omega
    have hcs : ([AV.ro (tmC (.mk a us)), y] : List AV).set 1 (.rs 1 (nCs (ixL (els.length + 1) us))) = [.ro (tmC (.mk a us)), .rs 1 (nCs (ixL (els.length + 1) us))] := rfl
    have hOx : ∀ z : Heap, z O = some (.arr 2 (els ++ ndCs (ndF els.length (.mk a us)))) → Ow hb z 2 (els ++ ndCs (ndF els.length (.mk a us))) (.os O (els ++ [[.ro (tmC (.mk a us)), y]] ++ ndCs (ndFL (els.length + 1) (us.take us.length))).length) := fun z hz => by
      refine .inr ⟨by simp [ndF, ndCs], O, ?_, hz, hbO⟩
      rw [hfin, List.take_length]; simp
    rcases oY with ⟨hye, rfl⟩ | ⟨hne, A, hyA, hA, hbA⟩
    · obtain ⟨z, hz⟩ : ∃ z : Heap, z = h6.set O (.arr 2 (els ++ ndCs (ndF els.length (.mk a us)))) := ⟨_, rfl⟩
      have hr : HRef h6 z := frz_el (j := 1) (cs := [.ro (tmC (.mk a us)), .e0]) (y := .e0) (y' := .rs 1 (nCs (ixL (els.length + 1) us))) hO hnlt hget rfl (hszE .e0) (by rw [hye]; exact .e0) (by omega) (by rw [hcs, hset, ← hfin, hz]; exact Heap.set_same _ _ _) (fun i m hi hm => by rw [hz, Heap.set_ne hi] at hm; exact hm)
      refine retA_wk .refl hr (hq _ z (by rw [hz, Heap.set_ne nO1.symm]; exact e1) (hOx z (by rw [hz]; exact Heap.set_same _ _ _)) fun j n hj => ?_)
      rw [hz, Heap.set_ne (fun e => by subst e; rw [hbO] at hj; cases hj)]; exact fX j n hj
    · subst hyA
      have nA1 : A ≠ p1 := fun e => by subst e; rw [Heap.set_same] at hbA; cases hbA
      have hbA' : hb A = none := by rw [Heap.set_ne nA1] at hbA; exact hbA
      have nAO : A ≠ O := fun e => by subst e; rw [hA] at hO; cases hO
      obtain ⟨z, hz⟩ : ∃ z : Heap, z = (h6.set O (.arr 2 (els ++ ndCs (ndF els.length (.mk a us))))).del A := ⟨_, rfl⟩
      have hzO : z O = some (.arr 2 (els ++ ndCs (ndF els.length (.mk a us)))) := by rw [hz, Heap.del_ne nAO.symm]; exact Heap.set_same _ _ _
      have hr : HRef h6 z := frz_el (j := 1) (cs := [.ro (tmC (.mk a us)), .os A (nCs (ixL (els.length + 1) us)).length]) (y := .os A (nCs (ixL (els.length + 1) us)).length) (y' := .rs 1 (nCs (ixL (els.length + 1) us))) hO hnlt hget rfl (hszE _) (.frz hA (by rw [hz]; exact Heap.del_same _ _) (Nat.le_refl _) rfl (fun i hi => nCs_szN _ i hi) fun i j _ _ => .refl) (by omega)
        (by rw [hcs, hset, ← hfin]; exact hzO) (fun i m hi hm => by
          rw [hz] at hm
          by_cases e : i = A
          · subst e; rw [Heap.del_same] at hm; cases hm
          · rw [Heap.del_ne e, Heap.set_ne hi] at hm; exact hm)
      refine retA_wk .refl hr (hq _ z (by rw [hz, Heap.del_ne nA1.symm, Heap.set_ne nO1.symm]; exact e1) (hOx z hzO) fun j n hj => ?_)
      rw [hz, Heap.del_ne (fun e => by subst e; rw [hbA'] at hj; cases hj), Heap.set_ne (fun e => by subst e; rw [hbO] at hj; cases hj)]; exact fX j n hj
end Am
