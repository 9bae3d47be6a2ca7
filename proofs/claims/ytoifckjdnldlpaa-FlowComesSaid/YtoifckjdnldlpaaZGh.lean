/- FlowComes answers true. -/
import Derived.Test.YtoifckjdnldlpaaZGf
set_option linter.unusedVariables false
set_option linter.unusedSimpArgs false
namespace Am
open Go Go.Proofs.Try
def anyM (s : Sch) (l : List Pc) (t : Tm) : Bool := l.any fun p => (mtch (ndS s p).1 t []).isSome
theorem anyM_drop {s : Sch} {l : List Pc} {t : Tm} {k : Nat} (hk : k < l.length) : anyM s (l.drop k) t = ((mtch (ndS s l[k]).1 t []).isSome || anyM s (l.drop (k + 1)) t) := by
  unfold anyM
  rw [List.drop_eq_getElem_cons hk, List.any_cons]
def inK (s : Sch) (a b : Int) : Prop := 0 ≤ a ∧ a < s.funs.length ∧ 0 ≤ b ∧ b < (ar s a.toNat : Nat)
structure ComQ (s : Sch) (a b : Int) (t : Tm) (q : AV → Prop) : Prop where
  no : ¬ SOk s → q (.tup [B false, I 7])
  out : SOk s → ¬ inK s a b → q (.tup [B false, I 2])
  big : SOk s → inK s a b → 100000 < t.nodes → q (.tup [B false, I 3])
  yes : SOk s → inK s a b → ¬ 100000 < t.nodes → ∀ bl F, IsR s bl → IsFlow s bl F → q (.tup [B (anyM s (F (a.toNat, b.toNat)) t), I 0])
theorem schB_no {s : Sch} (H : ¬ SOk s) : schB s = false := by
  cases h : schB s with
  | false => rfl
  | true => exact absurd ((schB_iff s).1 h) H
theorem nd_small {s : Sch} (H : SOk s) {p : Pc} (hp : okP s p) : (ndS s p).1.nodes ≤ 400 := by
  have h1 := nd_nodes _ _ _ (List.mem_of_getElem? (ndS_get hp))
  have h2 := H.body (getD_mem hp.1)
  omega
theorem flow_Comes_c (s : Sch) (a b : Int) (t : Tm) (Sm : SOk s → Small s) {h : Heap} {Q : AV → Heap → Prop} (hq : ComQ s a b t fun x => Q x h) : ACalls prog n_flow_Comes [sm s, I a, I b, tm t] h Q := by
  refine flow_Comes_call ?_
  unfold flow_Comes sm
  rw [show tm t = .agg [I t.lab.1, I t.lab.2, .rs 3 (tmCs t.kids)] from (tm_eta t).symm]
  simp only [w_agg, List.length_cons, List.length_nil, true_and, g_0, g_1, g_2]
  refine callS_of (scheme_Check_c s ?_)
  by_cases H : SOk s
  case neg =>
    rw [schB_no H, w_neq, w_brA]
    simp only [Bool.false_eq_true, if_false, show ¬ ((7 : Int) = 0) by omega, decide_false, Bool.not_false, if_true]
    exact retA_of (hq.no H)
  rw [if_pos ((schB_iff s).2 H), w_neq, w_brA]
  simp only [decide_true, Bool.not_true, Bool.false_eq_true, if_false, w_lss, w_brA, w_len_rs, fnCs_len, w_geq]
  by_cases h1 : a < 0
  · simp only [h1, decide_true, if_true]
    exact retA_of (hq.out H fun h => by have := h.1; omega)
  simp only [h1, decide_false, Bool.false_eq_true, if_false]
  by_cases h2 : (s.funs.length : Int) ≤ a
  · simp only [h2, decide_true, if_true]
    exact retA_of (hq.out H fun h => by have := h.2.1; omega)
  simp only [h2, decide_false, Bool.false_eq_true, if_false]
  by_cases h3 : b < 0
  · simp only [h3, decide_true, if_true]
    exact retA_of (hq.out H fun h => by have := h.2.2.1; omega)
  simp only [h3, decide_false, Bool.false_eq_true, if_false]
  obtain ⟨f, rfl⟩ : ∃ f : Nat, a = f := ⟨a.toNat, by omega⟩
  obtain ⟨i, rfl⟩ : ∃ i : Nat, b = i := ⟨b.toNat, by omega⟩
  have hf : f < s.funs.length := by omega
  refine rd_srt' hf ?_
  have earr : (srtOf s f).kids.length = ar s f := rfl
  simp only [w_len_rs, srCs_len, earr, w_geq, w_brA]
  by_cases h4 : ((ar s f : Nat) : Int) ≤ i
  · simp only [h4, decide_true, if_true]
    exact retA_of (hq.out H fun h => by have := h.2.2.2; rw [Int.toNat_natCast] at this; omega)
  simp only [h4, decide_false, Bool.false_eq_true, if_false]
  have hi : i < ar s f := by omega
  have hin : inK s f i := ⟨by omega, by omega, by omega, by rw [Int.toNat_natCast]; omega⟩
  rw [tm_eta]
  refine callS_of (term_Size_c t (tp0 (tp1 ?_)))
  rw [w_gtr, w_brA]
  by_cases hbig : 100000 < t.nodes
  · have : (100000 : Int) < szN 100000 t := by unfold szN; rw [if_neg (by omega)]; omega
    simp only [this, decide_true, if_true]
    exact retA_of (hq.big H hin hbig)
  have : ¬ (100000 : Int) < szN 100000 t := by unfold szN; rw [if_pos (by omega)]; omega
  simp only [this, decide_false, Bool.false_eq_true, if_false]
  rw [sm_eta]
  refine callS_of (flow_Flow_c H (Sm H) fun bl F hbl hF => tp0 (tp1 ?_))
  simp only [w_neq, decide_true, Bool.not_true, w_brA, Bool.false_eq_true, if_false]
  have hy := hq.yes H hin hbig bl F hbl hF
  rw [Int.toNat_natCast, Int.toNat_natCast] at hy
  refine rd_flow F hf (rd_row F hi ?_)
  rw [w_len_rs, List.length_map]
  have hFl := hF.len H (Sm H) (f, i)
  refine loop_upW (F (f, i)).length (fun k σ' h' => σ' = [I k] ∧ h' = h ∧ anyM s (F (f, i)) t = anyM s ((F (f, i)).drop k) t) (Wk.refl ⟨rfl, rfl, by simp⟩) (fun k σ' h' ⟨e, _⟩ => by rw [e]; rfl) ?_
  rintro k σ' h' K hk ⟨rfl, rfl, he⟩ hK
  simp only [g_0]
  by_cases hlt : k < (F (f, i)).length
  case neg =>
    have : k = (F (f, i)).length := by omega
    subst this
    simp only [w_lss, Int.lt_irrefl, decide_false, w_brA, Bool.false_eq_true, if_false]
    rw [List.drop_length] at he
    rw [he] at hy
    exact retA_of hy
  have hlt' : (k : Int) < (F (f, i)).length := by omega
  simp only [w_lss, hlt', decide_true, w_brA, if_true]
  refine ix_rs (by simpa using hlt) (plC_get hlt) ?_
  rw [w_loadG_ro]
  refine ⟨by simp, ?_⟩
  simp only [List.drop_zero, g_0, g_1]
  rw [anyM_drop hlt] at he
  obtain ⟨p, hp⟩ : ∃ p, p = (F (f, i))[k] := ⟨_, rfl⟩
  rw [← hp] at he ⊢
  have hm : FlP s (Rb bl) true (f, i) p := by rw [← hF.mem, hp]; exact List.getElem_mem hlt
  obtain ⟨_, t2, t3, t4⟩ := (hm.typed H).2 rfl
  have hn4 := nd_small H t2
  refine callS_of (flow_at_c H (p.1 : Nat) (p.2 : Nat) ?_)
  rw [atS_ok t2]
  refine tp0 (tp1 ?_)
  rw [w_nil_ro, w_loadG_ro]
  refine ⟨by simp, ?_⟩
  intro m hmn
  rw [w_loadG_ro]
  refine ⟨⟨by simp, rfl⟩, ?_⟩
  simp only [List.drop_zero, tmC_0, tmC_1, tmC_2, tm_eta]
  refine callS_of (flow_match_c m (ndS s p).1 t [] (Heap.set_same _ _ _) (by omega) (by omega) (fun e he => by cases he) (fun hn es' => ?_) fun es' hs _ => ?_)
  · rw [hn] at he
    simp only [w_brA, Bool.false_eq_true, if_false]
    rw [w_add, wrap_k (k := k) (by omega), Heap.set_set]
    exact hK hlt _ _ (Wk.none (HRef.drop hmn) ⟨rfl, rfl, by simpa using he⟩)
  · rw [hs] at he
    simp only [w_brA, if_true]
    rw [Heap.set_set]
    have he' : anyM s (F (f, i)) t = true := by simpa using he
    rw [he'] at hy
    exact retA_wk .refl (HRef.drop hmn) hy
def KF (s : Sch) (F : Pc → List Pc) : List AV := [.rs 2 (syCs s.syms), .rs 5 (fnCs s.funs), .rs 1 (NR s), .any, flowC s F]
theorem vref19_known_f {s : Sch} (H : SOk s) (Sm : Small s) {h : Heap} {Q : AV → Heap → Prop} (hq : ∀ bl F, IsR s bl → IsFlow s bl F → Q (.ro (KF s F)) h) : ACalls prog n_vref19_known [sm s] h Q :=
  ACalls.wk1 (vref19_known_c H Sm fun bl σ l h1 hbl kr R => by
    have hF : IsFlow s bl σ.cm := ⟨fun k p => ⟨kr.inv.sc k p, kr.cm k p⟩, fun k => ⟨σ.cm k, (kr.inv.cs k).2, (kr.inv.cs k).eq.symm⟩⟩
    have hpa : conK s σ l .pa = some (.arr 5 [[.rs 2 (syCs s.syms), .rs 5 (fnCs s.funs), .rs 1 (NR s), .rs 1 (HR s l), .rs 1 (CR s l)]]) := rfl
    refine ⟨_, h, .fro (R.own .pa _ hpa) (R.new .pa _ hpa) (by simp) (by simp [KF]) fun j hj => ?_, HRef.sub R.fr, hq bl σ.cm hbl hF⟩
    have hj5 : j < 5 := hj
    match j, hj5 with
    | 0, _ => exact .refl
    | 1, _ => exact .refl
    | 2, _ => exact .refl
    | 3, _ => exact .any
    | 4, _ =>
      show Ref h1 h (.rs 1 (CR s l)) (flowC s σ.cm)
      unfold flowC
      refine .rs (by simp [CR]) (fun i hi => ?_) fun i j hi hj => ?_
      · have h1 : i < s.funs.length := by rwa [CR_len] at hi
        rw [flowC_get σ.cm h1]; rfl
      · have h1 : i < s.funs.length := by rwa [CR_len] at hi
        obtain rfl : j = 0 := by omega
        rw [CR_get h1, flowC_get σ.cm h1, g_0, g_0]
        have hc : conK s σ l (.tmp i) = some (.arr 1 ((List.range (ar s i)).map fun j => [.rs 2 ((σ.cm (i, j)).map plC)])) := by simp only [conK, h1, if_true]
        refine .frz (R.own _ _ hc) (R.new _ _ hc) (by simp) (by simp) (fun j hj => ?_) fun j k hj hk => .refl
        rw [row_get (fun j => σ.cm (i, j)) hj]; rfl)
theorem rd_KF {s : Sch} {F : Pc → List Pc} {h : Heap} {K : AV → Prop} (hk : K (flowC s F)) : nilA (.ro (KF s F)) <| fldA 4 (.ro (KF s F)) fun p => loadV p h K := by
  rw [w_nil_ro, w_fld_ro]
  show loadV (.ro [flowC s F]) h K
  rw [w_loadV_ro]; exact hk
theorem vref19_places_f {s : Sch} (H : SOk s) (Sm : Small s) {bl : List Bool} {F : Pc → List Pc} (hF : IsFlow s bl F) {h : Heap} {Q : AV → Heap → Prop} (hq : ∀ n : Nat, n ≤ 64 * (8 * 150) → Q (I (n : Nat)) h) : ACalls prog n_vref19_state_places [.ro (KF s F)] h Q := by
  have hfew := H.few
  refine vref19_state_places_call ?_
  unfold vref19_state_places
  refine rd_KF ?_
  have hlen : ∀ {K : AV → Prop}, K (I (s.funs.length : Nat)) → lenA (flowC s F) K := fun {K} hk => by
    unfold flowC; rw [w_len_rs, List.length_map, List.length_range]; exact hk
  refine hlen ?_
  refine loop_up s.funs.length (fun f σ' h' => ∃ n : Nat, n ≤ f * (8 * 150) ∧ σ' = [I n, I f] ∧ h' = h) ⟨0, by omega, rfl, rfl⟩ (fun k σ' h' ⟨_, _, e, _⟩ => by rw [e]; rfl) ?_
  rintro f σ' h' K hf ⟨n, hn, rfl, rfl⟩ hK
  simp only [g_0, g_1]
  have hfm : f * (8 * 150) ≤ 64 * (8 * 150) := Nat.mul_le_mul (by omega) (Nat.le_refl _)
  by_cases hlt : f < s.funs.length
  · have hlt' : (f : Int) < s.funs.length := by omega
    have ha8 := ar_le H hlt
    simp only [w_lss, hlt', decide_true, w_brA, if_true]
    refine rd_KF (rd_flow F hlt ?_)
    rw [w_len_rs, List.length_map, List.length_range]
    refine loop_up (ar s f) (fun i σ' h2 => ∃ m : Nat, m ≤ n + i * 150 ∧ σ' = [I m, I i] ∧ h2 = h') ⟨n, by omega, rfl, rfl⟩ (fun k σ' h' ⟨_, _, e, _⟩ => by rw [e]; rfl) ?_
    rintro i σ' h2 K2 hi ⟨m, hm, rfl, rfl⟩ hK2
    simp only [g_0, g_1]
    have him : i * 150 ≤ 8 * 150 := Nat.mul_le_mul (by omega) (Nat.le_refl _)
    by_cases hlt2 : i < ar s f
    · have hlt2' : (i : Int) < (ar s f : Nat) := by omega
      simp only [w_lss, hlt2', decide_true, w_brA, if_true]
      refine rd_row F hlt2 ?_
      have hc := hF.len H Sm (f, i)
      rw [w_len_rs, List.length_map, w_add, w_add, wrap_k (k := i) (by omega), wrap_i64 (by omega) (by omega)]
      refine hK2 hlt2 _ _ ⟨m + (F (f, i)).length, by omega, by simp, rfl⟩
    · have hie : i = ar s f := by omega
      subst hie
      simp only [w_lss, Int.lt_irrefl, decide_false, w_brA, Bool.false_eq_true, if_false]
      rw [w_add, wrap_k (k := f) (by omega)]
      refine hK hlt _ _ ⟨m, by omega, rfl, rfl⟩
  · have hfe : f = s.funs.length := by omega
    subst hfe
    simp only [w_lss, Int.lt_irrefl, decide_false, w_brA, Bool.false_eq_true, if_false]
    exact retA_of (hq n (Nat.le_trans hn hfm))
theorem vref19_Comes_c (s : Sch) (a b : Int) (t : Tm) (Sm : SOk s → Small s) {h : Heap} {Q : AV → Heap → Prop} (hq : ComQ s a b t fun x => Q x h) : ACalls prog n_vref19_Comes [sm s, I a, I b, tm t] h Q := by
  refine vref19_Comes_call ?_
  unfold vref19_Comes sm
  rw [show tm t = .agg [I t.lab.1, I t.lab.2, .rs 3 (tmCs t.kids)] from (tm_eta t).symm]
  simp only [w_agg, List.length_cons, List.length_nil, true_and, g_0, g_1, g_2]
  refine callS_of (vref03_Is_c s ?_)
  by_cases H : SOk s
  case neg =>
    rw [schB_no H]
    simp only [w_notA, Bool.not_false, w_brA, if_true]
    exact retA_of (hq.no H)
  rw [(schB_iff s).2 H]
  simp only [w_notA, Bool.not_true, Bool.false_eq_true, if_false, w_lss, w_brA, w_len_rs, fnCs_len, w_geq]
  by_cases h1 : a < 0
  · simp only [h1, decide_true, if_true]
    exact retA_of (hq.out H fun h => by have := h.1; omega)
  simp only [h1, decide_false, Bool.false_eq_true, if_false]
  by_cases h2 : (s.funs.length : Int) ≤ a
  · simp only [h2, decide_true, if_true]
    exact retA_of (hq.out H fun h => by have := h.2.1; omega)
  simp only [h2, decide_false, Bool.false_eq_true, if_false]
  by_cases h3 : b < 0
  · simp only [h3, decide_true, if_true]
    exact retA_of (hq.out H fun h => by have := h.2.2.1; omega)
  simp only [h3, decide_false, Bool.false_eq_true, if_false]
  obtain ⟨f, rfl⟩ : ∃ f : Nat, a = f := ⟨a.toNat, by omega⟩
  obtain ⟨i, rfl⟩ : ∃ i : Nat, b = i := ⟨b.toNat, by omega⟩
  have hf : f < s.funs.length := by omega
  refine rd_srt' hf ?_
  have earr : (srtOf s f).kids.length = ar s f := rfl
  simp only [w_len_rs, srCs_len, earr, w_geq, w_brA]
  by_cases h4 : ((ar s f : Nat) : Int) ≤ i
  · simp only [h4, decide_true, if_true]
    exact retA_of (hq.out H fun h => by have := h.2.2.2; rw [Int.toNat_natCast] at this; omega)
  simp only [h4, decide_false, Bool.false_eq_true, if_false]
  have hi : i < ar s f := by omega
  have hin : inK s f i := ⟨by omega, by omega, by omega, by rw [Int.toNat_natCast]; omega⟩
  rw [tm_eta, sm_eta]
  refine callS_of (vref19_known_f H (Sm H) fun bl F hbl hF => ?_)
  refine callS_of (vref02_Large_c t ?_)
  rw [w_brA]
  by_cases hbig : 100000 < t.nodes
  · simp only [hbig, decide_true, if_true]
    exact retA_of (hq.big H hin hbig)
  simp only [hbig, decide_false, Bool.false_eq_true, if_false]
  have hy := hq.yes H hin hbig bl F hbl hF
  rw [Int.toNat_natCast, Int.toNat_natCast] at hy
  refine callS_of (vref19_places_f H (Sm H) hF fun n hn => ?_)
  have : ¬ (200000 : Int) < n := by omega
  rw [w_gtr]
  simp only [this, decide_false, w_brA, Bool.false_eq_true, if_false]
  refine rd_KF (rd_flow F hf (rd_row F hi ?_))
  rw [w_len_rs, List.length_map]
  have hFl := hF.len H (Sm H) (f, i)
  refine loop_upW (F (f, i)).length (fun k σ' h' => σ' = [I k] ∧ h' = h ∧ anyM s (F (f, i)) t = anyM s ((F (f, i)).drop k) t) (Wk.refl ⟨rfl, rfl, by simp⟩) (fun k σ' h' ⟨e, _⟩ => by rw [e]; rfl) ?_
  rintro k σ' h' K hk ⟨rfl, rfl, he⟩ hK
  simp only [g_0]
  by_cases hlt : k < (F (f, i)).length
  case neg =>
    have : k = (F (f, i)).length := by omega
    subst this
    simp only [w_lss, Int.lt_irrefl, decide_false, w_brA, Bool.false_eq_true, if_false]
    rw [List.drop_length] at he
    rw [he] at hy
    exact retA_of hy
  have hlt' : (k : Int) < (F (f, i)).length := by omega
  simp only [w_lss, hlt', decide_true, w_brA, if_true]
  refine ix_rs (by simpa using hlt) (plC_get hlt) ?_
  rw [w_loadG_ro]
  refine ⟨by simp, ?_⟩
  simp only [List.drop_zero, g_0, g_1]
  rw [anyM_drop hlt] at he
  obtain ⟨p, hp⟩ : ∃ p, p = (F (f, i))[k] := ⟨_, rfl⟩
  rw [← hp] at he ⊢
  have hm : FlP s (Rb bl) true (f, i) p := by rw [← hF.mem, hp]; exact List.getElem_mem hlt
  obtain ⟨_, t2, t3, t4⟩ := (hm.typed H).2 rfl
  have hn4 := nd_small H t2
  have har8 := ar_le H t2.1
  rw [w_nil_ro, w_fld_ro, w_fix_ro]
  show loadV (.ro [.rs 1 (NR s), .any, flowC s F]) h' _
  rw [w_loadV_ro, w_fix_rs]
  refine ix_rs (by rw [NR_len]; exact t2.1) (NR_get t2.1) ?_
  rw [w_fix_ro, w_loadV_ro, w_fix_rs]
  refine ix_rs (by rw [tmCs_len, pre_len]; exact t2.2) (pre_lab t2) ?_
  rw [w_fix_ro, w_loadG_ro]
  refine ⟨by simp, ?_⟩
  refine rd_srt' t2.1 ?_
  have earr2 : (srtOf s p.1).kids.length = ar s p.1 := rfl
  rw [w_len_rs, srCs_len, earr2]
  refine ⟨rfl, by omega, by omega, fun id hid => ?_⟩
  rw [Int.toNat_natCast]
  have e0 : Node.arr 4 (List.replicate (ar s p.1) [B false, I 0, I 0, .e0]) = arN (ar s p.1) [] := by
    have : cellF [] = fun _ => [B false, I 0, I 0, .e0] := rfl
    rw [arN, this, List.map_const', List.length_range]
  rw [e0]
  simp only [List.drop_zero, tmC_0, tmC_1, tmC_2, tm_eta]
  refine callS_of (vref19_fits_c (plOf s p.1) id (ar s p.1) rfl (ndS s p).1 (nd_typed H t2) t [] (Heap.set_same _ _ _) (by omega) (by omega) (fun e he => by cases he) (fun hn es' => ?_) fun es' hs _ => ?_)
  · rw [hn] at he
    simp only [w_brA, Bool.false_eq_true, if_false]
    rw [w_add, wrap_k (k := k) (by omega), Heap.set_set]
    exact hK hlt _ _ (Wk.none (HRef.drop hid) ⟨rfl, rfl, by simpa using he⟩)
  · rw [hs] at he
    simp only [w_brA, if_true]
    rw [Heap.set_set]
    have he' : anyM s (F (f, i)) t = true := by simpa using he
    rw [he'] at hy
    exact retA_wk .refl (HRef.drop hid) hy
theorem law_FlowComes (s : Sch) (a b : Int) (t : Tm) {h : Heap} {Q : AV → Heap → Prop} (hq : ∀ h, Q (B true) h) : ACalls prog 25 [sm s, I a, I b, tm t] h Q := by
  have al : ∀ {h : Heap}, callS prog n_vlaw19_alive [] h fun r h => retA r h Q := fun {h} => callS_of (vlaw19_alive_c (retA_of (hq h)))
  refine vlaw19_FlowComes_call ?_
  unfold vlaw19_FlowComes sm
  rw [show tm t = .agg [I t.lab.1, I t.lab.2, .rs 3 (tmCs t.kids)] from (tm_eta t).symm]
  simp only [w_agg, List.length_cons, List.length_nil, true_and, g_0, g_1, g_2]
  refine callS_of (vlaw19_heavy_c s (fun _ _ => ?_) fun hsm => ?_)
  · simp only [w_brA, if_true]
    exact al
  simp only [w_brA, Bool.false_eq_true, if_false]
  rw [tm_eta, sm_eta]
  have both : ∀ {h : Heap}, callS prog n_flow_Comes [sm s, I a, I b, tm t] h fun r_15 h_16 =>
     tupA r_15 0 fun x_17 =>
     tupA r_15 1 fun x_18 =>
     callS prog n_vref19_Comes [sm s, I a, I b, tm t] h_16 fun r_19 h_20 =>
     tupA r_19 0 fun x_21 =>
     tupA r_19 1 fun x_22 =>
     binA .eql x_18 x_22 fun x_23 =>
     brA x_23 (eqbA false x_17 x_21 fun x_24 =>
     brA x_24 (callS prog n_vlaw19_alive [] h_20 fun r_25 h_26 =>
     retA r_25 h_26 Q) (retA (B false) h_20 Q)) (retA (B false) h_20 Q) := fun {h} => by
    have fin : ∀ (c : Bool) (n : Int), binA .eql (I n) (I n) fun x_23 =>
     brA x_23 (eqbA false (B c) (B c) fun x_24 =>
     brA x_24 (callS prog n_vlaw19_alive [] h fun r_25 h_26 =>
     retA r_25 h_26 Q) (retA (B false) h Q)) (retA (B false) h Q) := fun c n => by
      simp only [w_eql, w_brA, decide_true, if_true, w_eqb, beq_self_eq_true]
      exact al
    refine callS_of (flow_Comes_c s a b t hsm ⟨fun H => ?_, fun H h1 => ?_, fun H h1 h2 => ?_, fun H h1 h2 bl F hbl hF => ?_⟩)
    · refine tp0 (tp1 (callS_of (vref19_Comes_c s a b t hsm ⟨fun _ => ?_, fun H' => absurd H' H, fun H' => absurd H' H, fun H' => absurd H' H⟩)))
      exact tp0 (tp1 (fin _ _))
    · refine tp0 (tp1 (callS_of (vref19_Comes_c s a b t hsm ⟨fun H' => absurd H H', fun _ _ => ?_, fun _ h => absurd h h1, fun _ h => absurd h h1⟩)))
      exact tp0 (tp1 (fin _ _))
    · refine tp0 (tp1 (callS_of (vref19_Comes_c s a b t hsm ⟨fun H' => absurd H H', fun _ h => absurd h1 h, fun _ _ _ => ?_, fun _ _ h => absurd h2 h⟩)))
      exact tp0 (tp1 (fin _ _))
    · refine tp0 (tp1 (callS_of (vref19_Comes_c s a b t hsm ⟨fun H' => absurd H H', fun _ h => absurd h1 h, fun _ _ h => absurd h h2, fun _ _ _ bl' F' hbl' hF' => ?_⟩)))
      have := hbl.unique hbl'
      subst this
      have : F = F' := funext fun k => hF.eq hF' fun p => Iff.rfl
      subst this
      exact tp0 (tp1 (fin _ _))
  refine callS_of (vref02_Nodes_c t (m := 3000) (by omega) ?_)
  rw [w_gtr, w_brA]
  split
  · refine callS_of (vref02_Large_c t ?_)
    simp only [w_notA, w_brA]
    split
    · exact al
    · exact both
  · exact both
end Am
