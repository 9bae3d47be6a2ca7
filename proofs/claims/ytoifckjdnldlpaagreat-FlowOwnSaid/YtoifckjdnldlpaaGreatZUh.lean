/- The reference's lists of nodes, and what is reached. -/
import Derived.Test.YtoifckjdnldlpaaGreatZUe
set_option linter.unusedVariables false
set_option linter.unusedSimpArgs false
namespace Am
open Go Go.Proofs.Tryz
mutual
def preT_ : Tm → List Tm
  | .mk a us => .mk a us :: preL us
def preL : List Tm → List Tm
  | [] => []
  | t :: ts => preT_ t ++ preL ts
end
theorem preL_snoc {us : List Tm} {k : Nat} (hk : k < us.length) : preL (us.take (k + 1)) = preL (us.take k) ++ preT_ us[k] := by
  have : ∀ (l : List Tm) (t : Tm), preL (l ++ [t]) = preL l ++ preT_ t := fun l t => by
    induction l with
    | nil => simp [preL]
    | cons u l ih => simp [preL, ih]
  rw [List.take_succ_eq_append_getElem hk, this]
theorem preL_len (us : List Tm) : (∀ t, t ∈ us → (preT_ t).length = t.nodes) → (preL us).length = Rt.nodesL us := by
  induction us with
  | nil => intro _; rfl
  | cons t us ih => intro h; simp only [preL, List.length_append, Rt.nodesL]; rw [h t (by simp), ih fun t ht => h t (by simp [ht])]
theorem pre_len (t : Tm) : (preT_ t).length = t.nodes := by
  refine Rt.ind (P := fun t => (preT_ t).length = t.nodes) (fun a us ih => ?_) t
  simp only [preT_, List.length_cons, Rt.nodes, preL_len us ih]
theorem pre_fcs (t : Tm) : ∀ k, k ∈ fcs t ↔ ∃ x, x ∈ preT_ t ∧ x.lab = (1, k) := by
  refine Rt.ind (P := fun t => ∀ k, k ∈ fcs t ↔ ∃ x, x ∈ preT_ t ∧ x.lab = (1, k)) (fun a us ih => ?_) t
  intro k
  have hL : ∀ l : List Tm, (∀ t, t ∈ l → t ∈ us) → (k ∈ fcsL l ↔ ∃ x, x ∈ preL l ∧ x.lab = (1, k)) := fun l => by
    induction l with
    | nil => intro _; simp [fcsL, preL]
    | cons t l ihl =>
      intro hl
      simp only [fcsL, preL, List.mem_append]
      rw [ih t (hl t (by simp)) k, ihl fun t ht => hl t (by simp [ht])]
      constructor
      · rintro (⟨x, h1, h2⟩ | ⟨x, h1, h2⟩)
        · exact ⟨x, .inl h1, h2⟩
        · exact ⟨x, .inr h1, h2⟩
      · rintro ⟨x, h1 | h1, h2⟩
        · exact .inl ⟨x, h1, h2⟩
        · exact .inr ⟨x, h1, h2⟩
  simp only [fcs, preT_, List.mem_append, List.mem_cons]
  rw [hL us fun t ht => ht]
  constructor
  · rintro (h | ⟨x, h1, h2⟩)
    · by_cases k1 : a.1 = 1
      · rw [if_pos k1] at h
        have : k = a.2 := by simpa using h
        exact ⟨_, .inl rfl, by rw [this]; exact Prod.ext k1 rfl⟩
      · rw [if_neg k1] at h; cases h
    · exact ⟨x, .inr h1, h2⟩
  · rintro ⟨x, rfl | h1, h2⟩
    · left
      simp only [Rt.lab] at h2
      rw [h2]; simp
    · exact .inr ⟨x, h1, h2⟩
theorem vref19_Nodes_c (t : Tm) : ∀ {l : List Tm} {h h0 : Heap} {x : AV} {Q : AV → Heap → Prop}, SlO 3 (tmCs l) h x h0 → (l.length + t.nodes) * 40 ≤ 140737488355328 → (∀ x' h', SlO 3 (tmCs (l ++ preT_ t)) h x' h' → Q x' h') → ACalls prog n_vref19_Nodes [tm t, x] h0 Q := by
  refine Rt.ind (P := fun t => ∀ {l : List Tm} {h h0 : Heap} {x : AV} {Q : AV → Heap → Prop}, SlO 3 (tmCs l) h x h0 → (l.length + t.nodes) * 40 ≤ 140737488355328 → (∀ x' h', SlO 3 (tmCs (l ++ preT_ t)) h x' h' → Q x' h') → ACalls prog n_vref19_Nodes [tm t, x] h0 Q) (fun a us ih => ?_) t
  intro l h h0 x Q hs hm hq
  refine vref19_Nodes_call ?_
  unfold vref19_Nodes tm
  simp only [Rt.nodes] at hm
  have hlen := Rt.length_le us
  simp [tmC]
  refine hs.app (by simp; omega) fun x2 h2 hs2 => ?_
  have hs2' : SlO 3 (tmCs (l ++ [.mk a us])) h x2 h2 := by
    rw [tmCs_eq, List.map_append, ← tmCs_eq]; exact hs2
  refine loop_up us.length (fun k σ h' => ∃ y, σ = [y, I k] ∧ SlO 3 (tmCs (l ++ [.mk a us] ++ preL (us.take k))) h y h') ⟨x2, rfl, by simpa [preL] using hs2'⟩ (fun k σ' h' ⟨_, e, _⟩ => by rw [e]; rfl) ?_
  rintro k σ' h' K hk ⟨y, rfl, hs⟩ hK
  by_cases hlt : k < us.length
  · have hlt' : (k : Int) < us.length := by omega
    have hn := Rt.nodesL_take_succ hlt
    have hn2 := Rt.nodesL_take_le us (k + 1)
    have hpl : (preL (us.take k)).length = Rt.nodesL (us.take k) := preL_len _ fun t _ => pre_len t
    simp [hlt', hlt]
    refine callS_of ?_
    rw [tm_eta]
    rw [List.append_assoc] at hs
    refine ih us[k] (List.getElem_mem hlt) hs (by simp only [List.length_append, List.length_cons, List.length_nil]; omega) fun x3 h3 hs3 => ?_
    rw [wrap_k (k := k) (by omega)]
    refine hK hlt _ _ ⟨x3, rfl, ?_⟩
    rw [preL_snoc hlt, ← List.append_assoc]
    simpa [List.append_assoc] using hs3
  · have hkn : k = us.length := by omega
    subst hkn
    rw [List.take_length] at hs
    simp
    exact retA_of (hq _ _ (by simpa [preT_, List.append_assoc] using hs))
theorem vref19_Nodes_f (t : Tm) (ht : t.nodes ≤ 1000000000) {h : Heap} {Q : AV → Heap → Prop} (hq : Q (.rs 3 (tmCs (preT_ t))) h) : ACalls prog n_vref19_Nodes [tm t, .e0] h Q :=
  ACalls.wk1 (vref19_Nodes_c t (l := []) (h := h) (by simp [tmCs]; exact SlO.nil 3) (by simp; omega) fun x h' hs => by
    obtain ⟨r1, r2⟩ := hs.wk (tmCs_sz _)
    exact ⟨_, _, r1, r2, by simpa using hq⟩)
structure PS (s : Sch) (l l' : List Bool) (m : Bool) : Prop where
  len : l'.length = s.funs.length
  mono : ∀ k, l.getD k false = true → l'.getD k false = true
  sound : ∀ k, k < s.funs.length → l'.getD k false = true → Rch s k
  same : m = false → l' = l
  less : m = true → cntF l' < cntF l
theorem vref19_Reach_c (s : Sch) (H : SOk s) {h : Heap} {Q : AV → Heap → Prop} (hq : ∀ l, IsR s l → Q (.rs 1 (bCs l)) h) : ACalls prog n_vref19_Reach [sm s] h Q := by
  have hpos := H.pos
  have hfw := H.few
  refine vref19_Reach_call ?_
  unfold vref19_Reach sm
  simp only [w_agg, List.length_cons, List.length_nil, true_and, g_0, g_1, w_len_rs]
  simp only [fnCs_len]
  refine ⟨rfl, by omega, by omega, fun id hid => ?_⟩
  have hnn : ((s.funs.length : Int)).toNat = s.funs.length := by simp
  rw [hnn]
  have hrep : (List.replicate s.funs.length [B false] : List (List AV)) = bCs (List.replicate s.funs.length false) := by simp [bCs]
  rw [hrep]
  show idxA _ _ _ _ _
  rw [w_idx_os (Heap.set_same _ id _)]
  refine ⟨rfl, by omega, by omega, by simp, ?_⟩
  have ez : ((0 : Int)).toNat = 0 := rfl
  have hlt0 : 0 < (List.replicate s.funs.length false).length := by simp; omega
  rw [ez, w_store (Heap.set_same _ id _), bCs_get hlt0]
  refine ⟨by simp; omega, by simp, ?_⟩
  have hsp : ∀ b, splice [B b] 0 [AV.val (.bool true)] = [B true] := fun b => rfl
  rw [hsp, bCs_set, Heap.set_set]
  have hrepD : ∀ k, (List.replicate s.funs.length false).getD k false = false := fun k => by
    rw [List.getD_eq_getElem?_getD, List.getElem?_replicate]; split <;> rfl
  refine loop_down (fun n σ h' => ∃ l m, σ = [B m] ∧ h' = h.set id (.arr 1 (bCs l)) ∧ n = cntF l + (if m = true then 1 else 0) ∧ l.length = s.funs.length ∧ l.getD 0 false = true ∧ (∀ k, k < s.funs.length → l.getD k false = true → Rch s k) ∧
    (m = false → ∀ j, j < s.funs.length → l.getD j false = true → ∀ k, k ∈ fcs (s.funs.getD j default).body → l.getD k.toNat false = true)) _ ⟨_, true, rfl, rfl, rfl, by simp, by rw [getD_set_b hlt0, if_pos rfl], fun k hk h => ?_, fun h => by cases h⟩ ?_
  · rw [getD_set_b hlt0, hrepD] at h
    by_cases e : k = 0
    · subst e; exact .zero
    · rw [if_neg e] at h; cases h
  rintro n σ' h' K ⟨l, m, rfl, rfl, rfl, hll, hl0, hsd, hcl⟩ hK
  cases m with
  | false =>
    simp only [g_0, w_brA, Bool.false_eq_true, if_false]
    refine retA_wk (.frz (els := bCs l) (Heap.set_same _ _ _) hid (by simp [hll]) (by simp [hll]) (fun i hi => ?_) fun i j _ _ => .refl) (HRef.drop hid) (hq l ⟨hll, fun k hk => ⟨hsd k hk, fun hr => ?_⟩⟩)
    · rw [bCs_get (by omega)]; rfl
    · clear hk
      induction hr with
      | zero => exact hl0
      | @step f k hf hfl hc ih =>
        have := hcl rfl f hfl ih _ hc
        rwa [Int.toNat_natCast] at this
  | true =>
    simp only [g_0, w_brA, if_true]
    refine loop_up s.funs.length (fun k σ h' => ∃ l' m', σ = [B m', I k] ∧ h' = h.set id (.arr 1 (bCs l')) ∧ PS s l l' m' ∧ (m' = false → ∀ j, j < k → l.getD j false = true → ∀ c, c ∈ fcs (s.funs.getD j default).body → l.getD c.toNat false = true)) ⟨l, false, rfl, rfl, ⟨hll, fun _ h => h, hsd, fun _ => rfl, fun h => by cases h⟩, fun _ j hj => by omega⟩ (fun k σ' h' ⟨_, _, e, _⟩ => by rw [e]; rfl) ?_
    rintro k σ' h' K2 hk ⟨l', m', rfl, rfl, hps, hcl'⟩ hK2
    by_cases hlt : k < s.funs.length
    · have hlt' : (k : Int) < s.funs.length := by omega
      have hfm := List.getElem_mem hlt
      obtain ⟨q1, q2⟩ := H.callsOk _ hfm
      have eg : s.funs.getD k default = s.funs[k] := by simp [List.getD_eq_getElem?_getD, hlt]
      simp only [g_0, g_1, w_lss, hlt', decide_true, w_brA, if_true, w_idx_rs, Int.toNat_natCast, w_loadG_ro]
      rw [fnCs_get hlt, fnCs_len]
      refine ⟨trivial, by omega, hlt', by simp, ?_⟩
      simp only [fnC, g_2, g_3, g_4]
      refine callS_of ?_
      rw [tm_eta]
      refine vref19_Nodes_f _ q2 ?_
      simp only [w_len_rs, tmCs_len]
      have hpl := pre_len s.funs[k].body
      refine loop_up (preT_ s.funs[k].body).length (fun q σ h' => ∃ l2 m2, σ = [B m2, I q] ∧ h' = h.set id (.arr 1 (bCs l2)) ∧ PS s l l2 m2 ∧ (m2 = false → (∀ j, j < k → l.getD j false = true → ∀ c, c ∈ fcs (s.funs.getD j default).body → l.getD c.toNat false = true) ∧
        (l.getD k false = true → ∀ i (hi : i < (preT_ s.funs[k].body).length), i < q → (preT_ s.funs[k].body)[i].lab.1 = 1 → l.getD (preT_ s.funs[k].body)[i].lab.2.toNat false = true))) ⟨l', m', rfl, rfl, hps, fun h => ⟨hcl' h, fun _ i hi h0 => by omega⟩⟩ (fun k σ' h' ⟨_, _, e, _⟩ => by rw [e]; rfl) ?_
      rintro q σ' h' K3 hq3 ⟨l2, m2, rfl, rfl, hps2, hcl2⟩ hK3
      have hb := Heap.set_same h id (.arr 1 (bCs l2))
      by_cases hqt : q < (preT_ s.funs[k].body).length
      · have hqt' : (q : Int) < (preT_ s.funs[k].body).length := by omega
        have hwk : IntKind.i64.wrap ((q : Int) + 1) = ((q + 1 : Nat) : Int) := wrap_k (by omega)
        have hkl2 : k < l2.length := by rw [hps2.len]; exact hlt
        have hxm := List.getElem_mem hqt
        generalize hx : (preT_ s.funs[k].body)[q] = x at hxm
        have next : ∀ (hno : l2.getD k false = true → x.lab.1 = 1 → l2.getD x.lab.2.toNat false = true), K3 [B m2, I ((q + 1 : Nat) : Int)] (h.set id (.arr 1 (bCs l2))) := fun hno => by
          refine hK3 hqt _ _ ⟨l2, m2, rfl, rfl, hps2, fun hm => ⟨(hcl2 hm).1, fun hlk i hi hiq h1 => ?_⟩⟩
          by_cases e : i = q
          · subst e
            rw [hx] at h1 ⊢
            have := hps2.same hm
            subst this
            exact hno hlk h1
          · exact (hcl2 hm).2 hlk i hi (by omega) h1
        simp only [g_0, g_1, w_lss, hqt', decide_true, w_brA, if_true, w_idx_rs, Int.toNat_natCast, w_loadG_ro]
        rw [tmCs_get hqt, tmCs_len, hx]
        refine ⟨trivial, by omega, hqt', by simp, ?_⟩
        rw [w_idx_os hb]
        refine ⟨rfl, by omega, hlt', by simp [hps2.len], ?_⟩
        rw [w_loadV_op hb, Int.toNat_natCast, bCs_get hkl2]
        refine ⟨by simpa using hkl2, by omega, ?_⟩
        simp only [g_0, w_brA, tmC_0, tmC_1, w_eql, w_add, hwk]
        cases hk2 : l2.getD k false with
        | false =>
          simp only [Bool.false_eq_true, if_false]
          exact next fun h => by rw [hk2] at h; cases h
        | true =>
          simp only [if_true]
          by_cases k1 : x.lab.1 = 1
          · simp only [k1, decide_true, if_true]
            have hcx : x.lab.2 ∈ fcs s.funs[k].body := (pre_fcs _ _).2 ⟨x, hxm, Prod.ext k1 rfl⟩
            obtain ⟨b0, b1⟩ := q1 _ hcx
            have hxl : x.lab.2.toNat < l2.length := by rw [hps2.len]; omega
            rw [w_idx_os hb]
            refine ⟨rfl, b0, b1, by simp [hps2.len], ?_⟩
            rw [w_loadV_op hb, bCs_get hxl]
            refine ⟨by simpa using hxl, by omega, ?_⟩
            simp only [g_0, w_notA, w_brA]
            cases hx2 : l2.getD x.lab.2.toNat false with
            | true =>
              simp only [Bool.not_true, Bool.false_eq_true, if_false]
              exact next fun _ _ => hx2
            | false =>
              simp only [Bool.not_false, if_true]
              rw [w_idx_os hb]
              refine ⟨rfl, b0, b1, by simp [hps2.len], ?_⟩
              rw [w_store hb, bCs_get hxl]
              refine ⟨by simpa using hxl, by simp, ?_⟩
              rw [hsp, bCs_set, Heap.set_set]
              refine hK3 hqt _ _ ⟨_, true, rfl, rfl, ⟨by simp [hps2.len], fun j hj => ?_, fun j hj h => ?_, fun h => (by cases h), fun _ => ?_⟩, fun h => (by cases h)⟩
              · rw [getD_set_b hxl]
                split
                · rfl
                · exact hps2.mono j hj
              · rw [getD_set_b hxl] at h
                by_cases e : j = x.lab.2.toNat
                · subst e
                  refine .step (hps2.sound k hlt hk2) hlt ?_
                  rw [eg, Int.toNat_of_nonneg b0]; exact hcx
                · rw [if_neg e] at h; exact hps2.sound j hj h
              · have h1 := cntF_set hxl hx2
                have h2 := cntF_mono (l := l) (l' := l2) (by rw [hps2.len, hll]) hps2.mono
                omega
          · simp only [k1, decide_false, Bool.false_eq_true, if_false]
            exact next fun _ h => absurd h k1
      · have hqn : q = (preT_ s.funs[k].body).length := by omega
        subst hqn
        simp only [g_0, g_1, w_lss, Int.lt_irrefl, decide_false, w_brA, Bool.false_eq_true, if_false]
        rw [w_add, wrap_k (k := k) (by omega)]
        refine hK2 hlt _ _ ⟨l2, m2, rfl, rfl, hps2, fun hm j hj hlj c hc => ?_⟩
        by_cases e : j = k
        · subst e
          rw [eg] at hc
          obtain ⟨x, hx1, hx2⟩ := (pre_fcs _ _).1 hc
          obtain ⟨i, hi, rfl⟩ := List.mem_iff_getElem.1 hx1
          have := (hcl2 hm).2 hlj i hi hi (by rw [hx2])
          rw [hx2] at this; exact this
        · exact (hcl2 hm).1 j (by omega) hlj c hc
    · have hkn : k = s.funs.length := by omega
      subst hkn
      simp only [g_0, g_1, w_lss, Int.lt_irrefl, decide_false, w_brA, Bool.false_eq_true, if_false]
      refine hK _ _ _ ?_ ⟨l', m', rfl, rfl, rfl, hps.len, hps.mono 0 hl0, hps.sound, fun hm => ?_⟩
      · cases m' with
        | false => have := hps.same rfl; subst this; simp
        | true => have := hps.less rfl; simp; omega
      · have e := hps.same hm
        subst e
        exact hcl' hm
end Am
