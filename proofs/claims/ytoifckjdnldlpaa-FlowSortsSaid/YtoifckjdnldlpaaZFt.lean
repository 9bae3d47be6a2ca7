/- FlowSorts answers true. -/
import Derived.Test.YtoifckjdnldlpaaZFr
import Derived.Test.YtoifckjdnldlpaaZFY
set_option linter.unusedVariables false
set_option linter.unusedSimpArgs false
namespace Am
open Go Go.Proofs.Try
theorem atS_ok {s : Sch} {p : Pc} (hp : okP s p) : atS s (p.1 : Nat) (p.2 : Nat) = some (ndS s p).1 := by
  unfold atS
  rw [if_pos ⟨by omega, by have := hp.1; omega, by omega, by have := hp.2; rw [Int.toNat_natCast]; omega⟩]
  simp
theorem rd_flow {s : Sch} (F : Pc → List Pc) {f : Nat} (hf : f < s.funs.length) {h : Heap} {K : AV → Prop} (hk : K (.rs 1 ((List.range (ar s f)).map fun i => [.rs 2 ((F (f, i)).map plC)]))) :
    idxA 1 (flowC s F) (I (f : Nat)) h fun p => loadV p h K := by
  unfold flowC
  refine ix_rs (by simpa using hf) (flowC_get F hf) ?_
  rw [w_loadV_ro]; exact hk
theorem rd_row {n f : Nat} (F : Pc → List Pc) {i : Nat} (hi : i < n) {h : Heap} {K : AV → Prop} (hk : K (.rs 2 ((F (f, i)).map plC))) :
    idxA 1 (.rs 1 ((List.range n).map fun i => [AV.rs 2 ((F (f, i)).map plC)])) (I (i : Nat)) h fun p => loadV p h K := by
  refine ix_rs (by simpa using hi) (row_get (fun i => F (f, i)) hi) ?_
  rw [w_loadV_ro]; exact hk
theorem rd_srt {s : Sch} {f : Nat} (hf : f < s.funs.length) {h : Heap} {K : AV → Prop} (hk : K (.rs 1 (srCs (srtOf s f).kids))) :
    idxA 5 (.rs 5 (fnCs s.funs)) (I (f : Nat)) h fun p => fldA 1 p fun q => fldA 0 q fun r => loadV r h K := by
  refine ix_rs (by rw [fnCs_len]; exact hf) (fn_get hf) ?_
  rw [fnC, w_fld_ro, List.drop_succ_cons, List.drop_zero, w_fld_ro, List.drop_zero, w_loadV_ro, srC_eq]
  exact hk
theorem IsFlow.len {s : Sch} (H : SOk s) (Sm : Small s) {bl : List Bool} {F : Pc → List Pc} (hF : IsFlow s bl F) (k : Pc) : (F k).length ≤ 150 := by
  obtain ⟨l, hn, e⟩ := hF.ord k
  rw [e, srtP_len]
  refine Nat.le_trans (List.Nodup.length_le_of_subset hn fun p hp => mem_allPl.2 ?_) Sm
  have : FlP s (Rb bl) true k p := by rw [← hF.mem, e, srtP_mem]; exact hp
  exact ((this.typed H).2 rfl).2.1
theorem law_FlowSorts (s : Sch) {h : Heap} {Q : AV → Heap → Prop} (hq : ∀ h, Q (B true) h) : ACalls prog 24 [sm s] h Q := by
  have al : ∀ {h : Heap}, callS prog n_vlaw19_alive [] h fun r h => retA r h Q := fun {h} => callS_of (vlaw19_alive_c (retA_of (hq h)))
  refine vlaw19_FlowSorts_call ?_
  unfold vlaw19_FlowSorts sm
  simp only [w_agg, List.length_cons, List.length_nil, true_and, g_0, g_1]
  refine callS_of (vlaw19_heavy_c s (fun _ _ => ?_) fun hsm => ?_)
  · simp only [w_brA, if_true]
    exact al
  simp only [w_brA, Bool.false_eq_true, if_false]
  refine callS_of (vref03_Is_c s ?_)
  by_cases H : SOk s
  case neg =>
    have e : schB s = false := by
      cases h : schB s with
      | false => rfl
      | true => exact absurd ((schB_iff s).1 h) H
    rw [e]
    simp only [w_notA, Bool.not_false, w_brA, if_true]
    exact al
  rw [(schB_iff s).2 H]
  simp only [w_notA, Bool.not_true, w_brA, Bool.false_eq_true, if_false]
  have Sm := hsm H
  have hfew := H.few
  refine callS_of (flow_Flow_c H Sm fun bl F hb hF => ?_)
  refine tp0 (tp1 ?_)
  refine callS_of (flow_Reached_c s H fun bl' hb' => ?_)
  have := hb.unique hb'
  subst this
  refine tp0 (tp1 ?_)
  have hfl : (flowC s F) = .rs 1 ((List.range s.funs.length).map fun f => [.rs 1 ((List.range (ar s f)).map fun i => [.rs 2 ((F (f, i)).map plC)])]) := rfl
  simp only [w_neq, w_brA, decide_true, Bool.not_true, Bool.false_eq_true, if_false, hfl, w_len_rs, List.length_map, List.length_range, fnCs_len, bCs_len, hb.1]
  rw [← hfl]
  refine loop_ix s.funs.length (fun _ => True) trivial fun f hf _ K hK => ?_
  by_cases hlt : f < s.funs.length
  case neg =>
    have : f = s.funs.length := by omega
    subst this
    simp only [g_0, w_lss, Int.lt_irrefl, decide_false, w_brA, Bool.false_eq_true, if_false]
    exact al
  have hlt' : (f : Int) < s.funs.length := by omega
  have har8 := ar_le H hlt
  simp only [g_0, w_lss, hlt', decide_true, w_brA, if_true]
  refine rd_flow F hlt ?_
  rw [w_len_rs]
  refine rd_srt hlt ?_
  have earr : (srtOf s f).kids.length = ar s f := rfl
  simp only [w_len_rs, List.length_map, List.length_range, srCs_len, earr, w_neq, w_brA, decide_true, Bool.not_true, Bool.false_eq_true, if_false]
  refine rd_flow F hlt ?_
  simp only [w_len_rs, List.length_map, List.length_range]
  refine loop_ix (ar s f) (fun _ => True) trivial fun i hi _ K2 hK2 => ?_
  by_cases hlt2 : i < ar s f
  case neg =>
    have : i = ar s f := by omega
    subst this
    simp only [g_0, w_lss, Int.lt_irrefl, decide_false, w_brA, Bool.false_eq_true, if_false]
    rw [w_add, wrap_k (k := f) (by omega)]
    exact hK hlt trivial
  have hlt2' : (i : Int) < (ar s f : Nat) := by omega
  simp only [g_0, w_lss, hlt2', decide_true, w_brA, if_true]
  refine rd_flow F hlt (rd_row F hlt2 ?_)
  simp only [w_len_rs, List.length_map]
  have hFl := hF.len H Sm (f, i)
  refine loop_ix (F (f, i)).length (fun _ => True) trivial fun k hk _ K3 hK3 => ?_
  by_cases hlt3 : k < (F (f, i)).length
  case neg =>
    have : k = (F (f, i)).length := by omega
    subst this
    simp only [g_0, w_lss, Int.lt_irrefl, decide_false, w_brA, Bool.false_eq_true, if_false]
    rw [w_add, wrap_k (k := i) (by omega)]
    exact hK2 hlt2 trivial
  have hlt3' : (k : Int) < (F (f, i)).length := by omega
  simp only [g_0, w_lss, hlt3', decide_true, w_brA, if_true]
  refine ix_rs (by simpa using hlt3) (plC_get hlt3) ?_
  rw [w_loadG_ro]
  refine ⟨by simp, ?_⟩
  simp only [g_0, g_1]
  obtain ⟨p, hp⟩ : ∃ p, p = (F (f, i))[k] := ⟨_, rfl⟩
  rw [← hp]
  have hm : FlP s (Rb bl) true (f, i) p := by rw [← hF.mem, hp]; exact List.getElem_mem hlt3
  obtain ⟨_, t2, t3, t4⟩ := (hm.typed H).2 rfl
  have hn := atS_nodes H (atS_ok t2)
  refine callS_of (flow_At_c H (p.1 : Nat) (p.2 : Nat) ?_)
  rw [atS_ok t2]
  simp only [atR]
  refine tp0 (tp1 ?_)
  rw [← tm_eta]
  simp only [w_agg, List.length_cons, List.length_nil, true_and, g_0, g_1, g_2, w_neq, w_brA, decide_true, Bool.not_true, Bool.false_eq_true, if_false]
  rw [tm_eta]
  have t3' : bl.getD p.1 false = true := t3
  refine ix_rs (by rw [bCs_len, hb.1]; exact t2.1) (bCs_get (by rw [hb.1]; exact t2.1)) ?_
  rw [w_loadV_ro, t3']
  simp only [w_notA, Bool.not_true, w_brA, Bool.false_eq_true, if_false]
  refine callS_of (vref02_Nodes_c _ (m := 400) (by omega) ?_)
  have e1 : min (ndS s p).1.nodes (400 + 1) = (ndS s p).1.nodes := by omega
  have e2 : ¬ (400 : Int) < ((ndS s p).1.nodes : Nat) := by omega
  simp only [e1, w_gtr, e2, decide_false, w_brA, Bool.false_eq_true, if_false]
  refine callS_of (vref03_Place_c s t2.1 H.few ?_)
  have hpe : s.funs[p.1]'t2.1 = s.funs.getD p.1 default := by
    have := t2.1
    simp [List.getD_eq_getElem?_getD, this]
  rw [hpe]
  have hpl : PlOk (plOf s p.1) := H.place (getD_mem t2.1)
  refine callS_of (vref02_Of_c (plOf s p.1) hpl (ndS s p).1 (by omega) ?_)
  refine tp0 (tp1 ?_)
  have hty := nd_typed H t2
  rw [hty]
  unfold sr
  simp only [w_agg, List.length_cons, List.length_nil, true_and, g_0, w_notA, Bool.not_true, w_brA, Bool.false_eq_true, if_false]
  refine rd_srt hlt ?_
  have hki : i < (srtOf s f).kids.length := hlt2
  refine ix_rs (by rw [srCs_len]; exact hki) (srCs_get hki) ?_
  rw [w_loadG_ro]
  refine ⟨by simp, callS_of ?_⟩
  simp only [g_0]
  have hok := sortR_ok hpl (ndS s p).1
  rw [okS_iff] at hok
  refine vref01_Equal_c (sortR (plOf s p.1) (ndS s p).1).1 ((srtOf s f).kids[i]) (by omega) ?_
  have heq : (sortR (plOf s p.1) (ndS s p).1).1 = (srtOf s f).kids[i] := by
    have : tyP s p = (srtOf s f).kids.getD i so := t4
    rw [show (sortR (plOf s p.1) (ndS s p).1).1 = tyP s p from rfl, this]
    simp [List.getD_eq_getElem?_getD, hki]
  rw [(Rt.eqR_iff _ _).2 heq]
  simp only [w_notA, Bool.not_true, w_brA, Bool.false_eq_true, if_false]
  rw [w_add, wrap_k (k := k) (by omega)]
  exact hK3 hlt3 trivial
end Am
