/- flow.nodes, the closures of the work; a slice freezes in a cell. -/
import Derived.Test.YtoifckjdnldlpaaGreatZFg
set_option linter.unusedVariables false
set_option linter.unusedSimpArgs false
namespace Am
open Go Go.Proofs.Tryz
theorem flow_nodes_c (t : Tm) (ht : t.nodes ≤ 1000000000) {h : Heap} {Q : AV → Heap → Prop} (hq : Q (.rs 2 (ndCs (ndF 0 t))) h) : ACalls prog n_flow_nodes [.ro (tmC t)] h Q := by
  refine flow_nodes_call ?_
  unfold flow_nodes
  intro p1 hp1 p3 hp3
  obtain ⟨n31, hp3'⟩ := set_none hp3
  rw [w_one_fn]
  refine st_at (Heap.set_same _ _ _) (by omega) ?_
  rw [Heap.set_set]
  refine ld (x := .fn 154 [.op p1 0 0, .op p3 0 0]) (Heap.set_same _ _ _) (by omega) rfl ?_
  rw [w_callV]
  refine callS_of ?_
  refine flow_nodes_1_c t (hb := h.set p3 (.arr 1 [[.fn 154 [.op p1 0 0, .op p3 0 0]]])) (els := []) (x := .e0) (Heap.set_same _ _ _) (by rw [Heap.set_ne n31.symm]; exact Heap.set_same _ _ _) (by rw [Heap.set_ne n31.symm]; exact hp1) (.inl ⟨rfl, rfl⟩) (fun j n hj => ?_) (fun i hi => by simp at hi) (by simpa using ht) fun x' h' e1 e2 e3 => ?_
  · by_cases e : j = p3
    · subst e; rw [Heap.set_same] at hj ⊢; exact hj
    · rw [Heap.set_ne e] at hj
      have : j ≠ p1 := fun e => by subst e; rw [hp1] at hj; cases hj
      rw [Heap.set_ne e, Heap.set_ne this]; exact hj
  refine ld (x := x') e1 (by omega) rfl ?_
  simp only [List.nil_append, List.length_nil] at e2
  have e2' : Ow h h' 2 (ndCs (ndF 0 t)) x' := e2.to fun id a b => ⟨a, (set_none b).2⟩
  refine retA_wk (e2'.freeze rfl (fun i hi => ?_) fun i j _ _ => .refl) (HRef.sub fun j n hj => e3 j n ?_) hq
  · rw [ndCs_get (by simpa using hi)]; rfl
  · have : j ≠ p3 := fun e => by subst e; rw [hp3'] at hj; cases hj
    rw [Heap.set_ne this]; exact hj
theorem run_b {P : Nat} {q : Pc} {t : Tm} {g : Nat} (hg : t.lab.2 = (g : Nat)) {h : Heap} {Q : AV → Heap → Prop} (hk : ACalls prog n_flow_analysis_add [.op P 0 0, kC q, kC (g, 0)] h fun _ h' => Q (.tup []) h') :
    ACalls prog 155 [.ro [.op P 0 0], .ro (plC q), .ro [.ro (tmC t)]] h Q := by
  refine flow_analysis_begin_1_call ?_
  unfold flow_analysis_begin_1
  rw [w_loadV_ro, w_loadG_ro]
  refine ⟨by simp, ?_⟩
  rw [w_loadV_ro, w_nil_ro, w_fld_ro, tmC_eq, List.drop_succ_cons, List.drop_zero, w_loadV_ro, w_one_v, w_one_v]
  simp only [g_0, g_1]
  rw [hg]
  refine callS_of (hk.mono fun x h' e => retA_of e)
theorem run_a {P : Nat} {q hd : Pc} {n : Nat} {h : Heap} {Q : AV → Heap → Prop} (hk : ACalls prog n_flow_analysis_add [.op P 0 0, kC q, kC (hd.1, n)] h fun _ h' => Q (.tup []) h') :
    ACalls prog 188 [.ro [.op P 0 0], .ro (plC q), .ro (plC hd), .ro [I (n : Nat)]] h Q := by
  refine flow_analysis_add_1_call ?_
  unfold flow_analysis_add_1
  rw [w_loadV_ro, w_loadG_ro]
  refine ⟨by simp, ?_⟩
  rw [w_fld_ro, List.drop_zero, w_loadV_ro, w_loadV_ro, w_one_v, w_one_v]
  simp only [g_0, g_1]
  refine callS_of (hk.mono fun x h' e => retA_of e)
theorem run_c {P : Nat} {q hd : Pc} {n : Nat} (hs : hd.2 + n ≤ 1000000000) {h : Heap} {Q : AV → Heap → Prop} (hk : ACalls prog n_flow_analysis_add [.op P 0 0, kC q, kC (hd.1, hd.2 + n)] h fun _ h' => Q (.tup []) h') :
    ACalls prog 208 [.ro [.op P 0 0], .ro (plC q), .ro (plC hd), .ro [I (n : Nat)]] h Q := by
  refine flow_analysis_come_1_call ?_
  unfold flow_analysis_come_1
  rw [w_loadV_ro, w_loadG_ro]
  refine ⟨by simp, ?_⟩
  rw [w_fld_ro, List.drop_zero, w_loadV_ro, w_fld_ro, List.drop_succ_cons, List.drop_zero, w_loadV_ro, w_loadV_ro, w_add, show IntKind.i64.wrap (((hd.2 : Nat) : Int) + (n : Nat)) = ((hd.2 + n : Nat) : Int) by rw [wrap_i64 (by omega) (by omega)]; simp, w_one_v, w_one_v]
  simp only [g_0, g_1]
  refine callS_of (hk.mono fun x h' e => retA_of e)
section
variable {hb h : Heap} {c : Con} {l : Lo}
theorem RC.frzEl (R : RC hb c l h) {a b : Ad} {sz zb n j len : Nat} {els elsb : List (List AV)} (ha : c a = some (.arr sz els)) (hbb : c b = some (.arr zb elsb)) (hab : a ≠ b) (hn : n < elsb.length) (hj : j < zb)
    (hz : ∀ i, i < elsb.length → (elsb.getD i []).length = zb) (he : g (elsb.getD n []) j = .os (l a) len) (hlen : els.length = len) (hsz : ∀ i, i < els.length → (els.getD i []).length = sz) :
    ∃ h', HRef h h' ∧ RC hb ((c.del a).set b (.arr zb (elsb.set n ((elsb.getD n []).set j (.rs sz els))))) l h' := by
  have hla : l b ≠ l a := fun e => hab (R.inj _ _ _ _ ha hbb e.symm)
  have R1 := (R.del ha).upd (a := b) (.arr zb (elsb.set n ((elsb.getD n []).set j (.rs sz els)))) (m := .arr zb elsb) (by simp only [Con.del, if_neg (fun e => hab e.symm : ¬ b = a)]; exact hbb)
  refine ⟨_, frz_el (R.own _ _ hbb) hn rfl (hz n hn) hz (y := .any) (y' := .rs sz els) (j := j) ?_ hj (Heap.set_same _ _ _) (fun i m hi hm => ?_), R1⟩
  · rw [he]
    exact .frz (R.own _ _ ha) (by rw [Heap.set_ne hla.symm]; exact Heap.del_same _ _) (by omega) hlen (fun i hi => hsz i (by omega)) fun i j _ _ => .refl
  · rw [Heap.set_ne hi] at hm
    by_cases e : i = l a
    · subst e; rw [Heap.del_same] at hm; cases hm
    · rwa [Heap.del_ne e] at hm
end
end Am
