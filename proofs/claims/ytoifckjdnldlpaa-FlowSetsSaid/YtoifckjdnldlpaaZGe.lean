/- The reference's Flow; FlowSets answers true. -/
import Derived.Test.YtoifckjdnldlpaaZGd
import Derived.Test.YtoifckjdnldlpaaZFt
set_option linter.unusedVariables false
set_option linter.unusedSimpArgs false
namespace Am
open Go Go.Proofs.Try
theorem eqA_pcN (p q : Pc) (K : AV → Prop) : eqA [.int .i64, .int .i64] true (.agg [I (p.1 : Nat), I (p.2 : Nat)]) (.agg [I (q.1 : Nat), I (q.2 : Nat)]) K = K (B (!decide (p = q))) := by
  have h := eqKey_kC p q
  have h2 : eqCells [.int .i64, .int .i64] [I (p.1 : Nat), I (p.2 : Nat)] [I (q.1 : Nat), I (q.2 : Nat)] = some (decide (p = q)) := by simpa [eqKey] using h
  simp only [eqA, List.length_cons, List.length_nil, true_and, h2]
  rfl
section
variable {hb h : Heap} {s : Sch} {l : Lo} {bl : List Bool}
theorem rd_cmr {σ : KS} (R : RC hb (conK s σ l) l h) {P : Nat} (hP : l .pa = P) {K : AV → AV → Prop} (hk : K (.op P 0 4) (.rs 1 (CR s l))) : nilA (.op P 0 0) <| fldA 4 (.op P 0 0) fun a => loadV a h fun b => K a b := by
  have xa : h P = some (.arr 5 [[.rs 2 (syCs s.syms), .rs 5 (fnCs s.funs), .rs 1 (NR s), .rs 1 (HR s l), .rs 1 (CR s l)]]) := by rw [← hP]; exact R.own .pa _ rfl
  exact rdK xa (by omega) rfl hk
theorem vref19_places_c {R : Nat → Prop} {σ : KS} (H : SOk s) (Sm : Small s) (I0 : KInv s R σ) (Rc : RC hb (conK s σ l) l h) {Q : AV → Heap → Prop} (hq : ∀ n : Nat, n ≤ 64 * (8 * 150) → Q (I (n : Nat)) h) : ACalls prog n_vref19_state_places [.op (l .pa) 0 0] h Q := by
  have hfew := H.few
  refine vref19_state_places_call ?_
  unfold vref19_state_places
  refine rd_cmr Rc rfl ?_
  rw [w_len_rs, CR_len]
  refine loop_up s.funs.length (fun f σ' h' => ∃ n : Nat, n ≤ f * (8 * 150) ∧ σ' = [I n, I f] ∧ h' = h) ⟨0, by omega, rfl, rfl⟩ (fun k σ' h' ⟨_, _, e, _⟩ => by rw [e]; rfl) ?_
  rintro f σ' h' K hf ⟨n, hn, rfl, rfl⟩ hK
  simp only [g_0, g_1]
  have hfm : f * (8 * 150) ≤ 64 * (8 * 150) := Nat.mul_le_mul (by omega) (Nat.le_refl _)
  by_cases hlt : f < s.funs.length
  · have hlt' : (f : Int) < s.funs.length := by omega
    have ha8 := ar_le H hlt
    simp only [w_lss, hlt', decide_true, w_brA, if_true]
    refine rd_cmr Rc rfl ?_
    refine ix_rs (by rw [CR_len]; exact hlt) (CR_get hlt) ?_
    rw [w_loadV_ro, w_len_os]
    refine loop_up (ar s f) (fun i σ' h2 => ∃ m : Nat, m ≤ n + i * 150 ∧ σ' = [I m, I i] ∧ h2 = h') ⟨n, by omega, rfl, rfl⟩ (fun k σ' h' ⟨_, _, e, _⟩ => by rw [e]; rfl) ?_
    rintro i σ' h2 K2 hi ⟨m, hm, rfl, rfl⟩ hK2
    simp only [g_0, g_1]
    have him : i * 150 ≤ 8 * 150 := Nat.mul_le_mul (by omega) (Nat.le_refl _)
    by_cases hlt2 : i < ar s f
    · have hlt2' : (i : Int) < (ar s f : Nat) := by omega
      simp only [w_lss, hlt2', decide_true, w_brA, if_true]
      have hk : okK s (f, i) := ⟨hlt, hlt2⟩
      refine ix_cm (k := (f, i)) Rc hk (ld_cm (k := (f, i)) Rc hk ?_)
      have hc := I0.cm_le H Sm (f, i)
      rw [w_len_rs, List.length_map, w_add, w_add, wrap_k (k := i) (by omega), wrap_i64 (by omega) (by omega)]
      refine hK2 hlt2 _ _ ⟨m + (σ.cm (f, i)).length, by omega, by simp, rfl⟩
    · have hie : i = ar s f := by omega
      subst hie
      simp only [w_lss, Int.lt_irrefl, decide_false, w_brA, Bool.false_eq_true, if_false]
      rw [w_add, wrap_k (k := f) (by omega)]
      refine hK hlt _ _ ⟨m, by omega, rfl, rfl⟩
  · have hfe : f = s.funs.length := by omega
    subst hfe
    simp only [w_lss, Int.lt_irrefl, decide_false, w_brA, Bool.false_eq_true, if_false]
    exact retA_of (hq n (Nat.le_trans hn hfm))
theorem vref19_Flow_c (H : SOk s) (Sm : Small s) {Q : AV → Heap → Prop} (hq : ∀ bl F, IsR s bl → IsFlow s bl F → Q (.tup [flowC s F, I 0]) h) : ACalls prog n_vref19_Flow [sm s] h Q := by
  refine vref19_Flow_call ?_
  unfold vref19_Flow sm
  simp only [w_agg, List.length_cons, List.length_nil, true_and, g_0, g_1]
  refine callS_of (vref03_Is_c s ?_)
  rw [(schB_iff s).2 H]
  simp only [w_notA, Bool.not_true, w_brA, Bool.false_eq_true, if_false]
  refine callS_of (vref19_known_c H Sm fun bl σ l h1 hbl kr R => ?_)
  refine callS_of (vref19_places_c H Sm kr.inv R fun n hn => ?_)
  have : ¬ (200000 : Int) < n := by omega
  rw [w_gtr]
  simp only [this, decide_false, w_brA, Bool.false_eq_true, if_false]
  refine rd_cmr R rfl ?_
  have hF : IsFlow s bl σ.cm := ⟨fun k p => ⟨kr.inv.sc k p, kr.cm k p⟩, fun k => ⟨σ.cm k, (kr.inv.cs k).2, (kr.inv.cs k).eq.symm⟩⟩
  refine retA_wk (.tups (.cons ?_ (Refs.refl _))) (HRef.sub R.fr) (hq bl σ.cm hbl hF)
  unfold flowC
  refine .rs (by simp [CR]) (fun i hi => ?_) fun i j hi hj => ?_
  · have h1 : i < s.funs.length := by rwa [CR_len] at hi
    rw [flowC_get σ.cm h1]; rfl
  · have h1 : i < s.funs.length := by rwa [CR_len] at hi
    obtain rfl : j = 0 := by omega
    rw [CR_get h1, flowC_get σ.cm h1, g_0, g_0]
    have hc : conK s σ l (.tmp i) = some (.arr 1 ((List.range (ar s i)).map fun j => [.rs 2 ((σ.cm (i, j)).map plC)])) := by simp only [conK, h1, if_true]
    refine .frz (R.own _ _ hc) (R.new _ _ hc) (by simp) (by simp) (fun j hj => ?_) fun j k hj hk => .refl
    rw [row_get (fun j => σ.cm (i, j)) hj]; rfl
theorem vref19_Flow_no (H : ¬ SOk s) {Q : AV → Heap → Prop} (hq : Q (.tup [.e0, I 7]) h) : ACalls prog n_vref19_Flow [sm s] h Q := by
  refine vref19_Flow_call ?_
  unfold vref19_Flow sm
  simp only [w_agg, List.length_cons, List.length_nil, true_and, g_0, g_1]
  refine callS_of (vref03_Is_c s ?_)
  have : schB s = false := by
    cases h : schB s with
    | false => rfl
    | true => exact absurd ((schB_iff s).1 h) H
  rw [this]
  simp only [w_notA, Bool.not_false, w_brA, if_true]
  exact retA_of hq
theorem flow_Flow_no (H : ¬ SOk s) {Q : AV → Heap → Prop} (hq : Q (.tup [.e0, I 7]) h) : ACalls prog n_flow_Flow [sm s] h Q := by
  refine flow_Flow_call ?_
  unfold flow_Flow sm
  simp only [w_agg, List.length_cons, List.length_nil, true_and, g_0, g_1]
  refine callS_of (scheme_Check_c s ?_)
  have : schB s ≠ true := fun h => H ((schB_iff s).1 h)
  rw [if_neg this, w_neq, w_brA]
  simp only [show ¬ ((7 : Int) = 0) by omega, decide_false, Bool.not_false, if_true]
  exact retA_of hq
end
theorem law_FlowSets (s : Sch) {h : Heap} {Q : AV → Heap → Prop} (hq : ∀ h, Q (B true) h) : ACalls prog 21 [sm s] h Q := by
  have al : ∀ {h : Heap}, callS prog n_vlaw19_alive [] h fun r h => retA r h Q := fun {h} => callS_of (vlaw19_alive_c (retA_of (hq h)))
  refine vlaw19_FlowSets_call ?_
  unfold vlaw19_FlowSets sm
  simp only [w_agg, List.length_cons, List.length_nil, true_and, g_0, g_1]
  refine callS_of (vlaw19_heavy_c s (fun _ _ => ?_) fun hsm => ?_)
  · simp only [w_brA, if_true]
    exact al
  simp only [w_brA, Bool.false_eq_true, if_false]
  by_cases H : SOk s
  case neg =>
    refine callS_of (flow_Flow_no H ?_)
    refine tp0 (tp1 ?_)
    refine callS_of (vref19_Flow_no H ?_)
    refine tp0 (tp1 ?_)
    simp only [w_neq, w_brA, decide_true, Bool.not_true, Bool.false_eq_true, if_false, w_len_e]
    refine loop_ix 0 (fun _ => True) trivial fun k hk _ K hK => ?_
    have hkn : k = 0 := by omega
    subst hkn
    simp only [g_0, w_lss]
    rw [show (decide (((0 : Nat) : Int) < 0)) = false from rfl, w_brA]
    simp only [Bool.false_eq_true, if_false]
    exact al
  have Sm := hsm H
  have hfew := H.few
  refine callS_of (flow_Flow_c H Sm fun bl F hb hF => ?_)
  refine tp0 (tp1 ?_)
  refine callS_of (vref19_Flow_c H Sm fun bl' F' hb' hF' => ?_)
  have := hb.unique hb'
  subst this
  have : F = F' := funext fun k => hF.eq hF' fun p => Iff.rfl
  subst this
  refine tp0 (tp1 ?_)
  have hfl : (flowC s F) = .rs 1 ((List.range s.funs.length).map fun f => [.rs 1 ((List.range (ar s f)).map fun i => [.rs 2 ((F (f, i)).map plC)])]) := rfl
  simp only [w_neq, w_brA, decide_true, Bool.not_true, Bool.false_eq_true, if_false, hfl, w_len_rs, List.length_map, List.length_range]
  rw [← hfl]
  refine loop_ix s.funs.length (fun _ => True) trivial fun f hf _ K hK => ?_
  by_cases hlt : f < s.funs.length
  case neg =>
    have : f = s.funs.length := by omega
    subst this
    simp only [g_0, w_lss, Int.lt_irrefl, decide_false, w_brA, Bool.false_eq_true, if_false]
    exact al
  have hlt' : (f : Int) < s.funs.length := by omega
  have har8 := ar_le H hlt
  simp only [g_0, w_lss, hlt', decide_true, w_brA, if_true]
  refine rd_flow F hlt ?_
  rw [w_len_rs]
  refine rd_flow F hlt ?_
  simp only [w_len_rs, List.length_map, List.length_range, w_neq, w_brA, decide_true, Bool.not_true, Bool.false_eq_true, if_false]
  refine rd_flow F hlt ?_
  simp only [w_len_rs, List.length_map, List.length_range]
  refine loop_ix (ar s f) (fun _ => True) trivial fun i hi _ K2 hK2 => ?_
  by_cases hlt2 : i < ar s f
  case neg =>
    have : i = ar s f := by omega
    subst this
    simp only [g_0, w_lss, Int.lt_irrefl, decide_false, w_brA, Bool.false_eq_true, if_false]
    rw [w_add, wrap_k (k := f) (by omega)]
    exact hK hlt trivial
  have hlt2' : (i : Int) < (ar s f : Nat) := by omega
  simp only [g_0, w_lss, hlt2', decide_true, w_brA, if_true]
  refine rd_flow F hlt (rd_row F hlt2 ?_)
  rw [w_len_rs]
  refine rd_flow F hlt (rd_row F hlt2 ?_)
  simp only [w_len_rs, List.length_map, w_neq, w_brA, decide_true, Bool.not_true, Bool.false_eq_true, if_false]
  refine rd_flow F hlt (rd_row F hlt2 ?_)
  simp only [w_len_rs, List.length_map]
  have hFl := hF.len H Sm (f, i)
  refine loop_ix (F (f, i)).length (fun _ => True) trivial fun k hk _ K3 hK3 => ?_
  by_cases hlt3 : k < (F (f, i)).length
  case neg =>
    have : k = (F (f, i)).length := by omega
    subst this
    simp only [g_0, w_lss, Int.lt_irrefl, decide_false, w_brA, Bool.false_eq_true, if_false]
    rw [w_add, wrap_k (k := i) (by omega)]
    exact hK2 hlt2 trivial
  have hlt3' : (k : Int) < (F (f, i)).length := by omega
  simp only [g_0, w_lss, hlt3', decide_true, w_brA, if_true]
  refine ix_rs (by simpa using hlt3) (plC_get hlt3) ?_
  rw [w_loadG_ro]
  refine ⟨by simp, ?_⟩
  refine rd_flow F hlt (rd_row F hlt2 ?_)
  refine ix_rs (by simpa using hlt3) (plC_get hlt3) ?_
  rw [w_loadG_ro]
  refine ⟨by simp, ?_⟩
  simp only [List.drop_zero, g_0, g_1]
  rw [eqA_pcN]
  simp only [decide_true, Bool.not_true, w_brA, Bool.false_eq_true, if_false]
  rw [w_add, wrap_k (k := k) (by omega)]
  exact hK3 hlt3 trivial
end Am
