/- flow.reached: the functions that are reached. -/
import Derived.Test.YtoifckjdnldlpaaGreatZJ2
set_option linter.unusedVariables false
set_option linter.unusedSimpArgs false
namespace Am
open Go Go.Proofs.Tryz
def bCs (l : List Bool) : List (List AV) := l.map fun b => [B b]
@[simp] theorem bCs_len (l : List Bool) : (bCs l).length = l.length := by simp [bCs]
theorem bCs_get {l : List Bool} {k : Nat} (hk : k < l.length) : (bCs l).getD k [] = [B (l.getD k false)] := by simp [bCs, List.getD_eq_getElem?_getD, hk]
theorem bCs_set (l : List Bool) (k : Nat) (b : Bool) : (bCs l).set k [B b] = bCs (l.set k b) := by simp [bCs]
structure VR (s : Sch) (l : List Bool) (cs : List Int) (l' : List Bool) : Prop where
  len : l'.length = l.length
  mono : ∀ k, l.getD k false = true → l'.getD k false = true
  roots : ∀ k, k ∈ cs → l'.getD k.toNat false = true
  closed : ∀ k, k < s.funs.length → l'.getD k false = true → l.getD k false = false → ∀ m, m ∈ fcs (s.funs.getD k default).body → l'.getD m.toNat false = true
  sound : ∀ P : Nat → Prop, (∀ k, k < s.funs.length → P k → ∀ m, m ∈ fcs (s.funs.getD k default).body → P m.toNat) → (∀ m, m ∈ cs → P m.toNat) → ∀ k, k < s.funs.length → l'.getD k false = true → l.getD k false = true ∨ P k
theorem VR.nil (s : Sch) (l : List Bool) : VR s l [] l := ⟨rfl, fun _ h => h, fun _ h => (by cases h), fun k _ h1 h2 => (by rw [h1] at h2; cases h2), fun _ _ _ k _ h => .inl h⟩
theorem VR.trans {s : Sch} {l l1 l2 : List Bool} {a b : List Int} (A : VR s l a l1) (C : VR s l1 b l2) : VR s l (a ++ b) l2 where
  len := C.len.trans A.len
  mono k h := C.mono k (A.mono k h)
  roots k hk := by
    rcases List.mem_append.1 hk with h | h
    · exact C.mono _ (A.roots k h)
    · exact C.roots k h
  closed k hk h1 h2 m hm := by
    cases h3 : l1.getD k false with
    | true => exact C.mono _ (A.closed k hk h3 h2 m hm)
    | false => exact C.closed k hk h1 h3 m hm
  sound P hP hr k hk h := by
    rcases C.sound P hP (fun m hm => hr m (by simp [hm])) k hk h with h | h
    · exact A.sound P hP (fun m hm => hr m (by simp [hm])) k hk h
    · exact .inr h
def cntF (l : List Bool) : Nat := (l.filter fun b => !b).length
theorem cntF_set {l : List Bool} : ∀ {k : Nat}, k < l.length → l.getD k false = false → cntF (l.set k true) + 1 = cntF l := by
  induction l with
  | nil => intro k hk; simp at hk
  | cons b l ih =>
    intro k hk h
    cases k with
    | zero => have : b = false := by simpa using h
              subst this; simp [cntF]
    | succ k =>
      have := ih (k := k) (by simpa using hk) (by simpa using h)
      unfold cntF at this ⊢
      cases b <;> simp <;> omega
theorem cntF_mono : ∀ {l l' : List Bool}, l'.length = l.length → (∀ k, l.getD k false = true → l'.getD k false = true) → cntF l' ≤ cntF l
  | [], l', h, _ => by have : l' = [] := List.eq_nil_of_length_eq_zero h; subst this; exact Nat.le_refl _
  | b :: l, [], h, _ => by simp at h
  | b :: l, b' :: l', h, hm => by
    have h1 := cntF_mono (l := l) (l' := l') (by simpa using h) fun k hk => by have := hm (k + 1) (by simpa using hk); simpa using this
    have h2 := hm 0
    simp only [List.getD_cons_zero] at h2
    unfold cntF at h1 ⊢
    cases b <;> cases b' <;> simp at h2 ⊢ <;> omega
theorem getD_set_b {l : List Bool} {k j : Nat} (hk : k < l.length) : (l.set k true).getD j false = if j = k then true else l.getD j false := by
  rw [List.getD_eq_getElem?_getD, List.getD_eq_getElem?_getD, List.getElem?_set]
  by_cases e : k = j
  · subst e; simp [hk]
  · have : ¬ j = k := fun h => e h.symm
    simp [e, this]
theorem VR.mark {s : Sch} {l l1 : List Bool} {k : Nat} (hk : k < l.length) (hln : l.length = s.funs.length) (h0 : l.getD k false = false) (A : VR s (l.set k true) (fcs (s.funs.getD k default).body) l1) : VR s l [(k : Int)] l1 where
  len := A.len.trans (by simp)
  mono j h := A.mono j (by
    rw [getD_set_b hk]
    split
    · rfl
    · exact h)
  roots m hm := by
    have : m = k := by simpa using hm
    subst this
    rw [Int.toNat_natCast]
    exact A.mono k (by rw [getD_set_b hk, if_pos rfl])
  closed j hj h1 h2 m hm := by
    by_cases e : j = k
    · subst e; exact A.roots m hm
    · exact A.closed j hj h1 (by rw [getD_set_b hk, if_neg e]; exact h2) m hm
  sound P hP hr j hj h := by
    have hPk : P k := by have := hr k (by simp); rwa [Int.toNat_natCast] at this
    rcases A.sound P hP (fun m hm => hP k (by omega) hPk m hm) j hj h with h | h
    · rw [getD_set_b hk] at h
      by_cases e : j = k
      · subst e; exact .inr hPk
      · rw [if_neg e] at h; exact .inl h
    · exact .inr h
theorem VR.met {s : Sch} {l : List Bool} {k : Nat} (h0 : l.getD k false = true) : VR s l [(k : Int)] l :=
  ⟨rfl, fun _ h => h, fun m hm => by have : m = k := by simpa using hm
                                     subst this; rw [Int.toNat_natCast]; exact h0, fun k _ h1 h2 => (by rw [h1] at h2; cases h2), fun _ _ _ k _ h => .inl h⟩
structure Vs (s : Sch) (c1 c2 c3 d : Nat) (l : List Bool) (h : Heap) : Prop where
  out : h c1 = some (.arr 1 [[.os d s.funs.length]])
  bits : h d = some (.arr 1 (bCs l))
  self : h c2 = some (.arr 1 [[.fn 119 [.op c1 0 0, .op c2 0 0, .op c3 0 0]]])
  sch : h c3 = some (.arr 2 [[.rs 2 (syCs s.syms), .rs 5 (fnCs s.funs)]])
  len : l.length = s.funs.length
  n1 : c1 ≠ d
  n2 : c2 ≠ d
  n3 : c3 ≠ d
theorem Vs.set {s : Sch} {c1 c2 c3 d : Nat} {l : List Bool} {h : Heap} (V : Vs s c1 c2 c3 d l h) {l' : List Bool} (hl : l'.length = l.length) : Vs s c1 c2 c3 d l' (h.set d (.arr 1 (bCs l'))) :=
  ⟨by rw [Heap.set_ne V.n1]; exact V.out, Heap.set_same _ _ _, by rw [Heap.set_ne V.n2]; exact V.self, by rw [Heap.set_ne V.n3]; exact V.sch, hl.trans V.len, V.n1, V.n2, V.n3⟩
def VisitC (s : Sch) (c1 c2 c3 d : Nat) (t : Tm) (N : Nat) : Prop := ∀ (l : List Bool) (h : Heap) (Q : AV → Heap → Prop), Vs s c1 c2 c3 d l h → cntF l ≤ N → (∀ k, k ∈ fcs t → 0 ≤ k ∧ k < s.funs.length) → t.nodes ≤ 1000000000 →
  (∀ l', VR s l (fcs t) l' → Q (.tup []) (h.set d (.arr 1 (bCs l')))) → ACalls prog n_flow_reached_1 [tm t, .op c1 0 0, .op c2 0 0, .op c3 0 0] h Q
theorem fcsL_snoc {us : List Tm} {k : Nat} (hk : k < us.length) : fcsL (us.take (k + 1)) = fcsL (us.take k) ++ fcs us[k] := by
  have : ∀ (l : List Tm) (t : Tm), fcsL (l ++ [t]) = fcsL l ++ fcs t := fun l t => by
    induction l with
    | nil => simp [fcsL]
    | cons u l ih => simp [fcsL, ih]
  rw [List.take_succ_eq_append_getElem hk, this]
theorem visit_loop {s : Sch} {c1 c2 c3 d N : Nat} {us : List Tm} (hv : ∀ t, t ∈ us → VisitC s c1 c2 c3 d t N) (hc : ∀ k, k ∈ fcsL us → 0 ≤ k ∧ k < s.funs.length) (hm : Rt.nodesL us ≤ 1000000000)
    {l : List Bool} {h : Heap} {Q : AV → Heap → Prop} (V : Vs s c1 c2 c3 d l h) (hn : cntF l ≤ N) (hq : ∀ l', VR s l (fcsL us) l' → Q (.tup []) (h.set d (.arr 1 (bCs l')))) :
    loopS (fun s_19 h_20 K_21 =>
      binA .lss (g s_19 0) (I us.length) fun x_22 =>
      brA x_22 (idxA 3 (.rs 3 (tmCs us)) (g s_19 0) h_20 fun p_23 =>
      loadG 3 p_23 h_20 fun c_24 =>
      loadV (.op c2 0 0) h_20 fun x_25 =>
      callV prog x_25 [(.agg [(g c_24 0), (g c_24 1), (g c_24 2)])] h_20 fun r_26 h_27 =>
      binA .add (g s_19 0) (I 1) fun x_28 =>
      K_21 [x_28] h_27) (retA (.tup []) h_20 Q)) [(I 0)] h := by
  have hlen := Rt.length_le us
  refine loop_up us.length (fun k σ h' => ∃ l', σ = [I k] ∧ h' = h.set d (.arr 1 (bCs l')) ∧ VR s l (fcsL (us.take k)) l') ⟨l, rfl, by rw [Heap.set_id V.bits], by simpa [fcsL] using VR.nil s l⟩ (fun k σ' h' ⟨_, e, _⟩ => by rw [e]; rfl) ?_
  rintro k σ' h' K hk ⟨l', rfl, rfl, hvr⟩ hK
  have V' := V.set hvr.len
  by_cases hlt : k < us.length
  · have hlt' : (k : Int) < us.length := by omega
    have hkn := kid_nodes hlt
    simp [hlt', hlt]
    rw [w_loadV_op V'.self]
    refine ⟨by simp, by omega, ?_⟩
    simp only [List.getD_cons_zero, g_0, w_callV, List.cons_append, List.nil_append]
    refine callS_of ?_
    rw [tm_eta]
    refine hv us[k] (List.getElem_mem hlt) l' _ _ V' (Nat.le_trans (cntF_mono hvr.len hvr.mono) hn) (fun m hm => hc m (fcsL_mem.2 ⟨_, List.getElem_mem hlt, hm⟩)) (by omega) fun l2 hvr2 => ?_
    simp only [w_add, Heap.set_set]
    rw [wrap_k (k := k) (by omega)]
    exact hK hlt _ _ ⟨l2, rfl, rfl, by rw [fcsL_snoc hlt]; exact hvr.trans hvr2⟩
  · have hkn : k = us.length := by omega
    subst hkn
    rw [List.take_length] at hvr
    simp
    exact retA_of (hq l' hvr)
theorem flow_visit_c (s : Sch) (c1 c2 c3 d : Nat) (hcalls : ∀ f, f ∈ s.funs → (∀ k, k ∈ fcs f.body → 0 ≤ k ∧ k < s.funs.length) ∧ f.body.nodes ≤ 1000000000) (N : Nat) : ∀ t, VisitC s c1 c2 c3 d t N := by
  induction N using Nat.strongRecOn with
  | ind N IH =>
  intro t
  refine Rt.ind (P := fun t => VisitC s c1 c2 c3 d t N) (fun a us ih => ?_) t
  intro l h Q V hn hc hm hq
  simp only [Rt.nodes] at hm
  have hcL : ∀ k, k ∈ fcsL us → 0 ≤ k ∧ k < s.funs.length := fun k hk => hc k (by simp only [fcs, List.mem_append]; exact .inr hk)
  refine flow_reached_1_call ?_
  unfold flow_reached_1 tm
  simp [tmC]
  by_cases k1 : a.1 = 1
  · obtain ⟨b0, b1⟩ := hc a.2 (by simp [fcs, k1])
    have hlt : a.2.toNat < l.length := by rw [V.len]; omega
    simp [k1]
    rw [w_loadV_op V.out]
    refine ⟨by simp, by omega, ?_⟩
    simp only [List.getD_cons_zero, g_0]
    rw [w_idx_os V.bits]
    refine ⟨rfl, b0, b1, by simp [V.len], ?_⟩
    rw [w_loadV_op V.bits, bCs_get hlt]
    refine ⟨by simpa using hlt, by omega, ?_⟩
    have e1 : fcs (.mk a us) = [((a.2.toNat : Nat) : Int)] ++ fcsL us := by rw [fcs, if_pos k1, Int.toNat_of_nonneg b0]
    cases hb : l.getD a.2.toNat false with
    | true =>
      simp
      exact visit_loop (fun t ht => ih t ht) hcL (by omega) V hn fun l' hvr => hq l' (by rw [e1]; exact (VR.met hb).trans hvr)
    | false =>
      simp
      rw [w_loadV_op V.out]
      refine ⟨by simp, by omega, ?_⟩
      simp only [List.getD_cons_zero, g_0]
      rw [w_idx_os V.bits]
      refine ⟨rfl, b0, b1, by simp [V.len], ?_⟩
      rw [w_store V.bits, bCs_get hlt]
      refine ⟨by simpa using hlt, by simp, ?_⟩
      have hsp : splice [B (l.getD a.2.toNat false)] 0 [AV.val (.bool true)] = [B true] := rfl
      rw [hsp, bCs_set]
      have hcs := cntF_set hlt hb
      have V1 := V.set (l' := l.set a.2.toNat true) (by simp)
      rw [w_loadV_op V1.self]
      refine ⟨by simp, by omega, ?_⟩
      simp only [List.getD_cons_zero, g_0]
      rw [w_loadV_op V1.sch]
      refine ⟨by simp, by omega, ?_⟩
      have hlf : a.2.toNat < s.funs.length := by rw [← V.len]; exact hlt
      have eb : (fnCs s.funs).getD a.2.toNat [] = fnC s.funs[a.2.toNat] := fnCs_get hlf
      simp only [List.getD_cons_zero, g_0, g_1, w_idx_rs, fnCs_len, eb]
      refine ⟨trivial, b0, b1, ?_⟩
      simp only [fnC, w_fld_ro, w_loadG_ro, List.drop_succ_cons, List.drop_zero, g_0, g_1, g_2, w_callV, List.cons_append, List.nil_append]
      refine ⟨by simp, callS_of ?_⟩
      rw [tm_eta]
      obtain ⟨q1, q2⟩ := hcalls _ (List.getElem_mem hlf)
      refine IH (N - 1) (by omega) _ _ _ _ V1 (by omega) q1 q2 fun l1 hvr1 => ?_
      have eg : s.funs.getD a.2.toNat default = s.funs[a.2.toNat] := by simp [List.getD_eq_getElem?_getD, hlf]
      have hvm := VR.mark (s := s) hlt V.len hb (by rw [eg]; exact hvr1)
      rw [Heap.set_set]
      have V2 := V.set (l' := l1) hvm.len
      have hc1 := cntF_mono hvr1.len hvr1.mono
      refine visit_loop (N := N - 1) (fun t ht => IH (N - 1) (by omega) t) hcL (by omega) V2 (by omega) fun l' hvr => ?_
      rw [Heap.set_set]
      exact hq l' (by rw [e1]; exact hvm.trans hvr)
  · simp [k1]
    have e1 : fcs (.mk a us) = fcsL us := by rw [fcs, if_neg k1, List.nil_append]
    exact visit_loop (fun t ht => ih t ht) hcL (by omega) V hn fun l' hvr => hq l' (by rw [e1]; exact hvr)
theorem SOk.callsOk {s : Sch} (H : SOk s) : ∀ f, f ∈ s.funs → (∀ k, k ∈ fcs f.body → 0 ≤ k ∧ k < s.funs.length) ∧ f.body.nodes ≤ 1000000000 := fun f hf => ⟨fun k hk => H.calls hf hk, by have := H.body hf; omega⟩
theorem VR.isR {s : Sch} (H : SOk s) {l : List Bool} (A : VR s ((List.replicate s.funs.length false).set 0 true) (fcs (s.funs.getD 0 default).body) l) : IsR s l := by
  have hpos := H.pos
  have hrep : ∀ k, (List.replicate s.funs.length false).getD k false = false := fun k => by
    rw [List.getD_eq_getElem?_getD, List.getElem?_replicate]; split <;> rfl
  have A := VR.mark (l := List.replicate s.funs.length false) (k := 0) (by simp; omega) (by simp) (hrep 0) A
  have hlen : l.length = s.funs.length := A.len.trans (by simp)
  refine ⟨hlen, fun k hk => ⟨fun h => ?_, fun h => ?_⟩⟩
  · have p1 : ∀ k, k < s.funs.length → Rch s k → ∀ m, m ∈ fcs (s.funs.getD k default).body → Rch s m.toNat := fun k hk hr m hm => by
      have hf : s.funs.getD k default ∈ s.funs := by
        rw [List.getD_eq_getElem?_getD, List.getElem?_eq_getElem hk]; exact List.getElem_mem hk
      have := (H.calls hf hm).1
      exact .step hr hk (by rw [Int.toNat_of_nonneg this]; exact hm)
    have p2 : ∀ m, m ∈ [((0 : Nat) : Int)] → Rch s m.toNat := fun m hm => by
      have : m = ((0 : Nat) : Int) := by simpa using hm
      subst this; exact .zero
    rcases A.sound (Rch s) p1 p2 k hk h with h | h
    · rw [hrep] at h; cases h
    · exact h
  · clear hk
    induction h with
    | zero => exact A.roots ((0 : Nat) : Int) (by simp)
    | @step f k hf hfl hc ih =>
      have := A.closed f hfl ih (hrep f) _ hc
      rwa [Int.toNat_natCast] at this
theorem flow_reached_c (s : Sch) (H : SOk s) {h : Heap} {Q : AV → Heap → Prop} (hq : ∀ l, IsR s l → Q (.rs 1 (bCs l)) h) : ACalls prog n_flow_reached [sm s] h Q := by
  have hpos := H.pos
  have hfw := H.few
  refine flow_reached_call ?_
  unfold flow_reached sm
  simp only [w_agg, List.length_cons, List.length_nil, true_and, g_0, g_1]
  intro i3 hi3
  simp only [w_fld_op]
  rw [w_loadV_op (Heap.set_same _ i3 _)]
  refine ⟨by simp, by omega, ?_⟩
  simp only [List.getD_cons_zero, g_0, Nat.zero_add, g_1, w_len_rs]
  simp only [fnCs_len]
  refine ⟨rfl, by omega, by omega, fun d hd => ?_⟩
  intro i1 hi1
  simp only [w_one_os]
  rw [w_store (Heap.set_same _ i1 _)]
  refine ⟨by simp, by simp, ?_⟩
  rw [Heap.set_set]
  intro i2 hi2
  simp only [w_one_fn]
  rw [w_store (Heap.set_same _ i2 _)]
  refine ⟨by simp, by simp, ?_⟩
  rw [Heap.set_set]
  have n3d : i3 ≠ d := fun e => by subst e; rw [Heap.set_same] at hd; cases hd
  have n1d : i1 ≠ d := fun e => by subst e; rw [Heap.set_same] at hi1; cases hi1
  have n13 : i1 ≠ i3 := fun e => by subst e; rw [Heap.set_ne n1d, Heap.set_same] at hi1; cases hi1
  have n21 : i2 ≠ i1 := fun e => by subst e; rw [Heap.set_same] at hi2; cases hi2
  have n2d : i2 ≠ d := fun e => by subst e; rw [Heap.set_ne n21, Heap.set_same] at hi2; cases hi2
  have n23 : i2 ≠ i3 := fun e => by subst e; rw [Heap.set_ne n21, Heap.set_ne n2d, Heap.set_same] at hi2; cases hi2
  have f3 : h i3 = none := hi3
  have fd : h d = none := by rw [Heap.set_ne n3d.symm] at hd; exact hd
  have f1 : h i1 = none := by rw [Heap.set_ne n1d, Heap.set_ne n13] at hi1; exact hi1
  have f2 : h i2 = none := by rw [Heap.set_ne n21, Heap.set_ne n2d, Heap.set_ne n23] at hi2; exact hi2
  have hnn : ((s.funs.length : Int)).toNat = s.funs.length := by simp
  rw [hnn]
  have hrep : (List.replicate s.funs.length [B false] : List (List AV)) = bCs (List.replicate s.funs.length false) := by simp [bCs]
  rw [hrep]
  have hs1 : ([[AV.e0]] : List (List AV)).set 0 (splice (([[AV.e0]] : List (List AV)).getD 0 []) 0 [AV.os d s.funs.length]) = [[.os d s.funs.length]] := rfl
  have hs2 : ([[AV.val .nilFunc]] : List (List AV)).set 0 (splice (([[AV.val .nilFunc]] : List (List AV)).getD 0 []) 0 [AV.fn 119 [.op i1 0 0, .op i2 0 0, .op i3 0 0]]) = [[.fn 119 [.op i1 0 0, .op i2 0 0, .op i3 0 0]]] := rfl
  rw [hs1, hs2]
  generalize hH : (((h.set i3 (.arr 2 [[.rs 2 (syCs s.syms), .rs 5 (fnCs s.funs)]])).set d (.arr 1 (bCs (List.replicate s.funs.length false)))).set i1 (.arr 1 [[.os d s.funs.length]])).set i2 (.arr 1 [[.fn 119 [.op i1 0 0, .op i2 0 0, .op i3 0 0]]]) = h0
  have V : Vs s i1 i2 i3 d (List.replicate s.funs.length false) h0 := by
    subst hH
    refine ⟨?_, ?_, Heap.set_same _ _ _, ?_, by simp, n1d, n2d, n3d⟩
    · rw [Heap.set_ne n21.symm, Heap.set_same]
    · rw [Heap.set_ne n2d.symm, Heap.set_ne n1d.symm, Heap.set_same]
    · rw [Heap.set_ne n23.symm, Heap.set_ne n13.symm, Heap.set_ne n3d, Heap.set_same]
  have hfr : ∀ j n, h j = some n → h0 j = some n := fun j n hj => by
    subst hH
    have a1 : j ≠ i1 := fun e => by subst e; rw [f1] at hj; cases hj
    have a2 : j ≠ i2 := fun e => by subst e; rw [f2] at hj; cases hj
    have a3 : j ≠ i3 := fun e => by subst e; rw [f3] at hj; cases hj
    have a4 : j ≠ d := fun e => by subst e; rw [fd] at hj; cases hj
    rw [Heap.set_ne a2, Heap.set_ne a1, Heap.set_ne a4, Heap.set_ne a3]; exact hj
  have hlt : 0 < (List.replicate s.funs.length false).length := by simp; omega
  rw [w_loadV_op V.out]
  refine ⟨by simp, by omega, ?_⟩
  simp only [List.getD_cons_zero, g_0]
  rw [w_idx_os V.bits]
  refine ⟨rfl, by omega, by omega, by simp, ?_⟩
  have ez : ((0 : Int)).toNat = 0 := rfl
  rw [ez, w_store V.bits, bCs_get hlt]
  refine ⟨by simp; omega, by simp, ?_⟩
  have hsp : ∀ b, splice [B b] 0 [AV.val (.bool true)] = [B true] := fun b => rfl
  rw [hsp, bCs_set]
  have V1 := V.set (l' := (List.replicate s.funs.length false).set 0 true) (by simp)
  rw [w_loadV_op V1.self]
  refine ⟨by simp, by omega, ?_⟩
  simp only [List.getD_cons_zero, g_0]
  rw [w_loadV_op V1.sch]
  refine ⟨by simp, by omega, ?_⟩
  have hp0 : 0 < s.funs.length := by omega
  have eb : (fnCs s.funs).getD (0 : Int).toNat [] = fnC s.funs[0] := fnCs_get hp0
  simp only [List.getD_cons_zero, g_0, g_1, w_idx_rs, fnCs_len, eb]
  refine ⟨trivial, by omega, by omega, ?_⟩
  simp only [fnC, w_fld_ro, w_loadG_ro, List.drop_succ_cons, List.drop_zero, g_0, g_1, g_2, w_callV, List.cons_append, List.nil_append]
  refine ⟨by simp, callS_of ?_⟩
  rw [tm_eta]
  obtain ⟨q1, q2⟩ := H.callsOk _ (List.getElem_mem hp0)
  refine flow_visit_c s i1 i2 i3 d H.callsOk _ _ _ _ _ V1 (Nat.le_refl _) q1 q2 fun l1 hvr1 => ?_
  have eg : s.funs.getD 0 default = s.funs[0] := by simp [List.getD_eq_getElem?_getD, hp0]
  have V2 := V1.set (l' := l1) hvr1.len
  rw [w_loadV_op V2.out]
  refine ⟨by simp, by omega, ?_⟩
  simp only [List.getD_cons_zero, g_0]
  have hir : IsR s l1 := VR.isR H (by rw [eg]; exact hvr1)
  have hl1 : l1.length = s.funs.length := hir.1
  refine retA_wk (.frz (els := bCs l1) V2.bits fd (by simp [hl1]) (by simp [hl1]) (fun i hi => ?_) fun i j _ _ => .refl) (HRef.sub fun j n hj => ?_) (hq l1 hir)
  · rw [bCs_get (by omega)]; rfl
  · have a4 : j ≠ d := fun e => by subst e; rw [fd] at hj; cases hj
    rw [Heap.set_ne a4, Heap.set_ne a4]; exact hfr j n hj
theorem flow_Reached_c (s : Sch) (H : SOk s) {h : Heap} {Q : AV → Heap → Prop} (hq : ∀ l, IsR s l → Q (.tup [.rs 1 (bCs l), I 0]) h) : ACalls prog n_flow_Reached [sm s] h Q := by
  refine flow_Reached_call ?_
  unfold flow_Reached sm
  simp
  refine callS_of ?_
  rw [sm_eta]
  refine scheme_Check_c s ?_
  rw [(schB_iff s).2 H]
  simp
  refine callS_of (flow_reached_c s H fun l hl => ?_)
  exact retA_of (hq l hl)
end Am
