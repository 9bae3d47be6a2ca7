/- Contracts: substitution (the reference's), applications, counts. -/
import Derived.Test.YtoifckjdnldlpaaLf
set_option linter.unusedVariables false
set_option linter.unusedSimpArgs false
namespace Am
open Go Go.Proofs.Try
open Rt (eqR eqRL eqR_iff)
def ints (l : List Int) : List (List AV) := l.map fun n => [I n]
@[simp] theorem ints_len (l : List Int) : (ints l).length = l.length := by simp [ints]
@[simp] theorem ints_gE {l : List Int} {k : Nat} (hk : k < (ints l).length) : (ints l)[k] = [I (l[k]'(by simpa using hk))] := by simp [ints]
@[simp] theorem ints_drop (l : List Int) (k : Nat) : (ints l).drop k = ints (l.drop k) := by simp [ints]
theorem ints_sz (l : List Int) : ∀ i, i < (ints l).length → ((ints l).getD i []).length = 1 := fun i hi => by
  simp [List.getD_eq_getElem?_getD, show i < l.length by simpa using hi]
theorem ints_app (l l' : List Int) : ints (l ++ l') = ints l ++ ints l' := by simp [ints]
def ins : List Int → Int → List Int
  | [], n => [n]
  | x :: r, n => if x < n then x :: ins r n else if x = n then n :: r else n :: x :: r
theorem ins_len (l : List Int) (n : Int) : (ins l n).length ≤ l.length + 1 := by
  induction l with
  | nil => simp [ins]
  | cons x r ih => simp only [ins]; split; · simp; omega
                   split <;> simp
theorem ins_all (p : Int → Bool) (l : List Int) (n : Int) : (ins l n).all p = (l.all p && p n) := by
  induction l with
  | nil => simp [ins]
  | cons x r ih =>
    simp only [ins]
    split
    · simp only [List.all_cons, ih, Bool.and_assoc]
    split
    · rename_i h; subst h; simp only [List.all_cons]; cases p x <;> simp
    · simp only [List.all_cons]; cases p x <;> cases p n <;> simp
theorem vref02_insert_c (l : List Int) (n : Int) (hl : l.length ≤ 1000000000) {h : Heap} {Q : AV → Heap → Prop} (hq : Q (.rs 1 (ints (ins l n))) h) : ACalls prog n_vref02_insert [.rs 1 (ints l), I n] h Q := by
  refine vref02_insert_call ?_
  unfold vref02_insert
  have fin : ∀ {els : List Int} {x : AV} {h' : Heap} (k : Nat), SlO 1 (ints els) h x h' → els.length ≤ 1000000001 → ins l n = els ++ l.drop k → appA 1 8 x (.rs 1 (ints (l.drop k))) h' fun x2 h2 => retA x2 h2 Q := by
    intro els x h' k hs hel he
    refine hs.app (by simp; omega) fun x2 h2 hs2 => ?_
    rw [← ints_app, ← he] at hs2
    obtain ⟨r1, r2⟩ := hs2.wk (ints_sz _)
    exact retA_wk r1 r2 hq
  refine loop_up l.length (fun k σ h' => ∃ x, σ = [x, I k] ∧ SlO 1 (ints (l.take k)) h x h' ∧ ins l n = l.take k ++ ins (l.drop k) n) ⟨.e0, rfl, by simp [ints]; exact SlO.nil 1, by simp⟩ (fun k σ' h' ⟨x, e, _⟩ => by rw [e]; rfl) ?_
  rintro k σ' h' K hk ⟨x, rfl, hs, hi⟩ hK
  by_cases hlt : k < l.length
  · have hlt' : (k : Int) < l.length := by omega
    rw [List.drop_eq_getElem_cons hlt] at hi
    simp only [ins] at hi
    simp [hlt', hlt]
    by_cases c1 : l[k] < n
    · rw [if_pos c1] at hi
      simp [c1]
      refine hs.app (by simp; omega) fun x2 h2 hs2 => ?_
      rw [wrap_k (k := k) (by omega)]
      refine hK hlt _ _ ⟨x2, rfl, ?_, ?_⟩
      · rw [List.take_succ_eq_append_getElem hlt, ints_app]; exact hs2
      · rw [hi, List.take_succ_eq_append_getElem hlt]; simp only [List.append_assoc, List.cons_append, List.nil_append]
    · rw [if_neg c1] at hi
      simp [c1]
      refine hs.app (by simp; omega) fun x2 h2 hs2 => ?_
      have hs3 : SlO 1 (ints (l.take k ++ [n])) h x2 h2 := by rw [ints_app]; exact hs2
      by_cases c2 : l[k] = n
      · rw [if_pos c2] at hi
        have hk1 : ((k + 1 : Nat) : Int) ≤ l.length := by omega
        have hk2 : k + 1 ≤ l.length := by omega
        have hk0 : (0 : Int) ≤ ((k + 1 : Nat) : Int) := by omega
        simp only [c2, decide_true, w_brA, if_true, wrap_k (k := k) (show k ≤ 4611686018427387904 by omega), w_sl_from, hk1, ints_len, true_and, Int.toNat_natCast, ints_drop, hk0]
        exact fin (k + 1) hs3 (by simp; omega) (by rw [hi]; simp only [List.append_assoc, List.cons_append, List.nil_append])
      · rw [if_neg c2] at hi
        have hk0 : k ≤ l.length := by omega
        simp [c2, hk0]
        exact fin k hs3 (by simp; omega) (by rw [hi, List.drop_eq_getElem_cons hlt]; simp only [List.append_assoc, List.cons_append, List.nil_append])
  · have hkn : k = l.length := by omega
    subst hkn
    simp
    refine hs.app (by simp; omega) fun x2 h2 hs2 => ?_
    have hs3 : SlO 1 (ints (l.take l.length ++ [n])) h x2 h2 := by rw [ints_app]; exact hs2
    have := fin l.length hs3 (by simp; omega) (by rw [hi]; simp [ins])
    simpa [ints] using this
mutual
def vars : Tm → List Int → List Int
  | .mk a us, l => varsL us (if a.1 = 0 then ins l a.2 else l)
def varsL : List Tm → List Int → List Int
  | [], l => l
  | u :: us, l => varsL us (vars u l)
end
theorem vars_len (t : Tm) : ∀ l, (vars t l).length ≤ l.length + t.nodes := by
  refine Rt.ind (P := fun t => ∀ l, (vars t l).length ≤ l.length + t.nodes) (fun a us ih l => ?_) t
  have key : ∀ l, (varsL us l).length ≤ l.length + Rt.nodesL us := by
    clear l
    induction us with
    | nil => intro l; simp [varsL, Rt.nodesL]
    | cons u us ih2 =>
      intro l
      have h1 := ih u (by simp) l
      have h2 := ih2 (fun t ht => ih t (by simp [ht])) (vars u l)
      simp only [varsL, Rt.nodesL]; omega
  have := key (if a.1 = 0 then ins l a.2 else l)
  have h2 := ins_len l a.2
  simp only [vars, Rt.nodes]
  split at this <;> (rename_i hc; simp only [hc, if_true, if_false]; omega)
theorem varsL_snoc (l : List Int) {us : List Tm} {k : Nat} (hk : k < us.length) : varsL (us.take (k + 1)) l = vars us[k] (varsL (us.take k) l) := by
  rw [List.take_succ_eq_append_getElem hk]
  generalize us.take k = vs
  induction vs generalizing l with
  | nil => rfl
  | cons v vs ih => simp only [List.cons_append, varsL]; exact ih _
theorem varsL_len (us : List Tm) : ∀ l, (varsL us l).length ≤ l.length + Rt.nodesL us := by
  induction us with
  | nil => intro l; simp [varsL]
  | cons u us ih => intro l; have h1 := vars_len u l; have h2 := ih (vars u l); simp only [varsL, Rt.nodesL]; omega
theorem vref02_Variables_c (t : Tm) : ∀ (l : List Int) {h : Heap} {Q : AV → Heap → Prop}, l.length + t.nodes ≤ 900000000 → Q (.rs 1 (ints (vars t l))) h → ACalls prog n_vref02_Variables [tm t, .rs 1 (ints l)] h Q := by
  refine Rt.ind (P := fun t => ∀ (l : List Int) {h : Heap} {Q : AV → Heap → Prop}, l.length + t.nodes ≤ 900000000 → Q (.rs 1 (ints (vars t l))) h → ACalls prog n_vref02_Variables [tm t, .rs 1 (ints l)] h Q) (fun a us ih => ?_) t
  intro l h Q hm hq
  refine vref02_Variables_call ?_
  unfold vref02_Variables tm
  simp only [Rt.nodes] at hm
  have hlen := Rt.length_le us
  have loop : ∀ l0 : List Int, l0.length + Rt.nodesL us ≤ 900000000 → Q (.rs 1 (ints (varsL us l0))) h → loopS (fun s_6 h_7 K_8 => binA .lss (g s_6 1) (I us.length) fun x_9 => brA x_9 (idxA 3 (.rs 3 (tmCs us)) (g s_6 1) h_7 fun p_10 => loadG 3 p_10 h_7 fun c_11 =>
      callS prog n_vref02_Variables [(.agg [(g c_11 0), (g c_11 1), (g c_11 2)]), (g s_6 0)] h_7 fun r_12 h_13 => binA .add (g s_6 1) (I 1) fun x_14 => K_8 [r_12, x_14] h_13) (retA (g s_6 0) h_7 Q)) [.rs 1 (ints l0), (I 0)] h := by
    intro l0 hl0 hQ
    refine loop_up us.length (fun k σ h' => σ = [.rs 1 (ints (varsL (us.take k) l0)), I k] ∧ h' = h) ⟨by simp [varsL], rfl⟩ (fun k σ' h' ⟨e, _⟩ => by rw [e]; rfl) ?_
    rintro k σ' h' K hk ⟨rfl, rfl⟩ hK
    by_cases hlt : k < us.length
    · have hlt' : (k : Int) < us.length := by omega
      have h1 := Rt.nodesL_take_succ hlt
      have h2 := Rt.nodesL_take_le us (k + 1)
      have h3 := varsL_len (us.take k) l0
      simp [hlt', hlt]
      refine callS_of ?_
      rw [tm_eta]
      refine ih us[k] (List.getElem_mem hlt) _ (by omega) ?_
      simp [wrap_k (k := k) (by omega)]
      exact hK hlt _ _ ⟨by rw [varsL_snoc l0 hlt]; rfl, rfl⟩
    · have hkn : k = us.length := by omega
      subst hkn
      simp
      exact retA_of hQ
  simp [tmC]
  by_cases k0 : a.1 = 0
  · simp [k0]
    refine callS_of (vref02_insert_c l a.2 (by omega) ?_)
    have := ins_len l a.2
    exact loop _ (by omega) (by simpa [vars, k0] using hq)
  · simp [k0]
    exact loop _ (by omega) (by simpa [vars, k0] using hq)
theorem vars_all (n : Nat) (t : Tm) : ∀ l, (vars t l).all (fun v => decide (0 ≤ v) && decide (v < n)) = (l.all (fun v => decide (0 ≤ v) && decide (v < n)) && vok n t) := by
  refine Rt.ind (P := fun t => ∀ l, (vars t l).all (fun v => decide (0 ≤ v) && decide (v < n)) = (l.all (fun v => decide (0 ≤ v) && decide (v < n)) && vok n t)) (fun a us ih l => ?_) t
  have key : ∀ l, (varsL us l).all (fun v => decide (0 ≤ v) && decide (v < n)) = (l.all (fun v => decide (0 ≤ v) && decide (v < n)) && vokL n us) := by
    clear l
    induction us with
    | nil => intro l; simp [varsL, vokL]
    | cons u us ih2 =>
      intro l
      simp only [varsL, vokL]
      rw [ih2 (fun t ht => ih t (by simp [ht])), ih u (by simp), Bool.and_assoc]
  simp only [vars, key, vok]
  by_cases k0 : a.1 = 0
  · simp only [k0, if_true, ins_all, ne_eq, not_true_eq_false, decide_false, Bool.false_or]
    generalize (l.all fun v => decide (0 ≤ v) && decide (v < n)) = A
    generalize vokL n us = C
    cases A <;> cases C <;> simp
  · simp [k0]
/-- The sizes of args. -/
def szs (l : List Tm) : List Int := l.map fun t => (t.nodes : Int)
theorem vref02_grown_c (args : List Tm) (ha : ∀ t, t ∈ args → t.nodes ≤ 100000) (t : Tm) : vok args.length t = true → t.nodes ≤ 1000000000 →
    ∀ {h : Heap} {Q : AV → Heap → Prop}, Q (I (min (sub args t).nodes 100001 : Nat)) h → ACalls prog n_vref02_grown [tm t, .rs 1 (ints (szs args))] h Q := by
  refine Rt.ind (P := fun t => vok args.length t = true → t.nodes ≤ 1000000000 → ∀ {h : Heap} {Q : AV → Heap → Prop}, Q (I (min (sub args t).nodes 100001 : Nat)) h → ACalls prog n_vref02_grown [tm t, .rs 1 (ints (szs args))] h Q) (fun a us ih => ?_) t
  intro hv hm h Q hq
  refine vref02_grown_call ?_
  unfold vref02_grown tm
  simp only [Rt.nodes] at hm
  have hlen := Rt.length_le us
  rw [sub_nodes] at hq
  simp only [vok, Bool.and_eq_true, Bool.or_eq_true, decide_eq_true_eq] at hv
  obtain ⟨hvl, hv⟩ := hv
  have hvk : ∀ k (hk : k < us.length), vok args.length us[k] = true := fun k hk => by
    have : ∀ (l : List Tm), vokL args.length l = true → ∀ t, t ∈ l → vok args.length t = true := fun l => by
      induction l with
      | nil => intro _ t ht; cases ht
      | cons u l ih =>
        intro h t ht
        simp only [vokL, Bool.and_eq_true] at h
        rcases List.mem_cons.1 ht with rfl | ht
        · exact h.1
        · exact ih h.2 t ht
    exact this us hvl _ (List.getElem_mem hk)
  have loop : ∀ n0 : Nat, n0 ≤ 100000 → Q (I (min (n0 + Rt.nodesL (subL args us)) 100001 : Nat)) h → loopS (fun s_6 h_7 K_8 => binA .lss (g s_6 1) (I us.length) fun x_9 => brA x_9 (idxA 3 (.rs 3 (tmCs us)) (g s_6 1) h_7 fun p_10 => loadG 3 p_10 h_7 fun c_11 =>
      callS prog n_vref02_grown [(.agg [(g c_11 0), (g c_11 1), (g c_11 2)]), .rs 1 (ints (szs args))] h_7 fun r_12 h_13 => binA .add (g s_6 0) r_12 fun x_14 => minA x_14 (I 100001) fun x_15 => binA .add (g s_6 1) (I 1) fun x_16 => K_8 [x_15, x_16] h_13) (retA (g s_6 0) h_7 Q)) [I n0, (I 0)] h := by
    intro n0 hn0 hQ
    refine loop_up us.length (fun k σ h' => σ = [I (min (n0 + Rt.nodesL (subL args (us.take k))) 100001 : Nat), I k] ∧ h' = h) ⟨by simp only [subL, List.take_zero, Rt.nodesL, Nat.add_zero, Nat.min_eq_left (show n0 ≤ 100001 by omega)]; rfl, rfl⟩ (fun k σ' h' ⟨e, _⟩ => by rw [e]; rfl) ?_
    rintro k σ' h' K hk ⟨rfl, rfl⟩ hK
    by_cases hlt : k < us.length
    · have hlt' : (k : Int) < us.length := by omega
      have h1 := nodesL_sub_snoc (args := args) hlt
      have hn := kid_nodes hlt
      generalize hA : min (n0 + Rt.nodesL (subL args (us.take k))) 100001 = A
      simp [hlt', hlt]
      refine callS_of ?_
      rw [tm_eta]
      refine ih us[k] (List.getElem_mem hlt) (hvk k hlt) (by omega) ?_
      generalize hB : min (sub args us[k]).nodes 100001 = B'
      have w1 : IntKind.i64.wrap ((A : Int) + (B' : Int)) = A + B' := wrap_i64 (by omega) (by omega)
      simp only [w_add, w1, w_min, wrap_k (k := k) (show k ≤ 4611686018427387904 by omega)]
      refine hK hlt _ _ ⟨?_, rfl⟩
      congr 3
      split <;> omega
    · have hkn : k = us.length := by omega
      subst hkn
      rw [List.take_length]
      simp only [g_0, g_1, w_lss, Int.lt_irrefl, decide_false, w_brA, Bool.false_eq_true, if_false]
      exact retA_of hQ
  simp [tmC]
  by_cases k0 : a.1 = 0
  · have hv' : 0 ≤ a.2 ∧ a.2 < args.length := by omega
    have hk : a.2.toNat < args.length := by omega
    have hb : base args a = args[a.2.toNat].nodes := by simp [base, k0, List.getD_eq_getElem?_getD, hk]
    have hbl := base_le ha a
    have hsz : (szs args).length = args.length := by simp [szs]
    have hk2 : a.2.toNat < (szs args).length := by rw [hsz]; exact hk
    have hv3 : a.2 < ((szs args).length : Int) := by rw [hsz]; exact hv'.2
    have hget : (szs args)[a.2.toNat] = (base args a : Int) := by rw [hb]; simp [szs]
    simp only [k0, decide_true, if_true, hv'.1, ints_len, hv3, true_and]
    have hgd : (ints (szs args)).getD a.2.toNat [] = [I (base args a)] := by
      simp [List.getD_eq_getElem?_getD, hk2, hget]
    simp only [List.getD_eq_getElem?_getD] at hgd
    rw [hgd]
    simp only [w_loadV_ro]
    exact loop _ (by omega) hq
  · have hb : base args a = 1 := by simp [base, k0]
    simp [k0]
    exact loop 1 (by omega) (by rw [hb] at hq; exact hq)
theorem w_idx_slo {sz : Nat} {els : List (List AV)} {h h' : Heap} {x : AV} (hs : SlO sz els h x h') {kd : IntKind} {n : Int} (h0 : 0 ≤ n) (h1 : n < els.length) {k : AV → Prop} (hk : ∀ id, h' id = some (.arr sz els) → k (.op id n.toNat 0)) : idxA sz x (.val (.int kd n)) h' k := by
  rcases hs with ⟨rfl, rfl, rfl⟩ | ⟨hne, id, hi, rfl, rfl⟩
  · simp at h1; omega
  · rw [w_idx_os (Heap.set_same h id _)]
    exact ⟨rfl, h0, h1, Nat.le_refl _, hk id (Heap.set_same h id _)⟩
theorem bigs_step {l : List Tm} {k : Nat} (hk : k < l.length) : bigs (l.drop k) = (decide (100000 < l[k].nodes) || bigs (l.drop (k + 1))) := by
  rw [List.drop_eq_getElem_cons hk]; rfl
theorem vref02_Subst_c (t : Tm) (args : List Tm) (hal : args.length ≤ 4611686018427387904) (hal2 : args.length * 8 ≤ 140737488355328) {h : Heap} {Q : AV → Heap → Prop} (hq : Q (.tup [tm (substE t args).1, I (substE t args).2]) h) : ACalls prog n_vref02_Subst [tm t, .rs 3 (tmCs args)] h Q := by
  refine vref02_Subst_call ?_
  unfold vref02_Subst tm
  simp
  unfold substE at hq
  refine callS_of ?_
  rw [tm_eta]
  refine vref02_Large_c t ?_
  by_cases hl : 100000 < t.nodes
  · simp [hl]; exact ret_tz (HRef.refl _) (by simpa [hl] using hq)
  simp [hl]
  refine loop_up args.length (fun k σ h' => ∃ x, σ = [x, I k, I 0, I 0, .e0] ∧ SlO 1 (ints (szs (args.take k))) h x h' ∧ bigs args = bigs (args.drop k) ∧ ∀ t, t ∈ args.take k → t.nodes ≤ 100000) ⟨.e0, rfl, by simp [ints, szs]; exact SlO.nil 1, by simp, by simp⟩ (fun k σ' h' ⟨x, e, _⟩ => by rw [e]; rfl) ?_
  rintro k σ' h' K hk ⟨x, rfl, hs, hi, hsm⟩ hK
  by_cases hlt : k < args.length
  · have hlt' : (k : Int) < args.length := by omega
    rw [bigs_step hlt] at hi
    simp [hlt', hlt]
    refine callS_of ?_
    simp only [tm_eta]
    refine vref02_Nodes_c _ (m := 100000) (by omega) ?_
    simp
    refine hs.app (by simp [szs]; omega) fun x2 h2 hs2 => ?_
    rw [hs2.len]
    have e1 : IntKind.i64.wrap (((ints (szs (args.take k)) ++ [[I (min args[k].nodes 100001 : Nat)]]).length : Int) - 1) = k := by
      have : (ints (szs (args.take k)) ++ [[I (min args[k].nodes 100001 : Nat)]]).length = k + 1 := by simp [szs]; omega
      rw [this, wrap_i64 (by omega) (by omega)]; omega
    have hml : min k args.length = k := Nat.min_eq_left hk
    rw [w_sub, e1]
    refine w_idx_slo hs2 (by omega) (by simp [szs]; omega) fun id hid => ?_
    rw [w_loadV_op hid]
    have hle : (ints (szs (args.take k))).length = k := by simp [szs]; omega
    refine ⟨by simp [szs]; omega, by omega, ?_⟩
    have e2 : (ints (szs (args.take k)) ++ [[I (min args[k].nodes 100001 : Nat)]]).getD (k : Int).toNat [] = [I (min args[k].nodes 100001 : Nat)] := by
      rw [Int.toNat_natCast, List.getD_eq_getElem?_getD, List.getElem?_append_right (by omega), hle]; simp
    rw [e2]
    simp only [g_0, w_gtr, w_brA, decide_eq_true_eq]
    by_cases hb : 100000 < args[k].nodes
    · rw [if_pos (by omega)]
      rw [hi] at hq
      exact ret_tz hs2.href (by simpa [hb] using hq)
    · rw [if_neg (by omega), wrap_k (k := k) (by omega)]
      refine hK hlt _ _ ⟨x2, rfl, ?_, by rw [hi]; simp [hb], fun u hu => ?_⟩
      · have : ints (szs (args.take (k + 1))) = ints (szs (args.take k)) ++ [[I (min args[k].nodes 100001 : Nat)]] := by
          rw [List.take_succ_eq_append_getElem hlt]
          simp only [szs, List.map_append, ints_app]
          congr 1
          simp only [List.map_cons, List.map_nil, ints]
          congr 3
          omega
        rw [this]; exact hs2
      · rw [List.take_succ_eq_append_getElem hlt, List.mem_append] at hu
        rcases hu with hu | hu
        · exact hsm u hu
        · simp at hu; rw [hu]; omega
  · have hkn : k = args.length := by omega
    subst hkn
    rw [List.take_length] at hs hsm
    have hbf : bigs args = false := by rw [hi, List.drop_length]; rfl
    rw [hbf] at hq
    simp
    refine callS_wk (args' := [tm t, .rs 1 (ints [])]) (.cons .refl (.cons .e0 .nil)) (HRef.refl _) ?_
    refine vref02_Variables_c t [] (by simp; omega) ?_
    simp
    have hva := vars_all args.length t []
    simp only [List.all_nil, Bool.true_and] at hva
    have hvl := vars_len t []
    simp at hvl
    refine loop_up (vars t []).length (fun k σ h2 => σ = [I k, I 0, I 0, .e0] ∧ h2 = h' ∧ (vars t []).all (fun v => decide (0 ≤ v) && decide (v < args.length)) = ((vars t []).drop k).all (fun v => decide (0 ≤ v) && decide (v < args.length))) ⟨rfl, rfl, by simp⟩ (fun k σ' h' ⟨e, _⟩ => by rw [e]; rfl) ?_
    rintro j σ2 h2 K2 hj ⟨rfl, rfl, hij⟩ hK2
    by_cases hjl : j < (vars t []).length
    · have hjl' : (j : Int) < (vars t []).length := by omega
      rw [List.drop_eq_getElem_cons hjl, List.all_cons] at hij
      have hd : (ints (vars t [])).getD j [] = [I (vars t [])[j]] := by simp [List.getD_eq_getElem?_getD, hjl]
      simp only [g_0, w_lss, hjl', decide_true, w_brA, if_true, w_idx_rs, ints_len, true_and, Int.toNat_natCast, hd, w_loadV_ro]
      refine ⟨by omega, ?_⟩
      by_cases c1 : (vars t [])[j] < 0
      · simp [c1]
        have : vok args.length t = false := by rw [← hva, hij]; simp; intro h; omega
        exact ret_tz hs.href (by simpa [hl, this] using hq)
      · simp [c1]
        by_cases c2 : (args.length : Int) ≤ (vars t [])[j]
        · simp [c2]
          have : vok args.length t = false := by rw [← hva, hij]; simp; intro h; omega
          exact ret_tz hs.href (by simpa [hl, this] using hq)
        · simp [c2, wrap_k (k := j) (by omega)]
          refine hK2 hjl _ _ ⟨rfl, rfl, ?_⟩
          rw [hij]
          have e1 : decide (0 ≤ (vars t [])[j]) = true := decide_eq_true (by omega)
          have e2 : decide ((vars t [])[j] < args.length) = true := decide_eq_true (by omega)
          rw [e1, e2]; rfl
    · have hjn : j = (vars t []).length := by omega
      subst hjn
      have hv : vok args.length t = true := by rw [← hva, hij, List.drop_length]; rfl
      simp
      have hszl : ∀ i, i < (ints (szs args)).length → ((ints (szs args)).getD i []).length = 1 := ints_sz _
      obtain ⟨r1, r2⟩ := hs.wk hszl
      refine callS_wk (args' := [tm t, .rs 1 (ints (szs args))]) (.cons .refl (.cons r1 .nil)) r2 ?_
      have hsub := sub_le hsm t
      refine vref02_grown_c args hsm t hv (by omega) ?_
      by_cases hbig : 100000 < (sub args t).nodes
      · have : decide ((100000 : Int) < ((min (sub args t).nodes 100001 : Nat) : Int)) = true := decide_eq_true (by omega)
        simp only [w_gtr, this, w_brA, if_true]
        exact ret_tz (HRef.refl _) (by simpa [hl, hv, hbig] using hq)
      · have : decide ((100000 : Int) < ((min (sub args t).nodes 100001 : Nat) : Int)) = false := decide_eq_false (by omega)
        simp only [w_gtr, this, w_brA, Bool.false_eq_true, if_false]
        refine callS_of ?_
        refine vref02_Replace_f args t hv (by omega) (by omega) (fun x hx => by have := hsm x hx; omega) ?_
        simp [tm]
        refine retA_of ?_
        rw [tm_eta]
        simpa [hl, hv, hbig] using hq
end Am
