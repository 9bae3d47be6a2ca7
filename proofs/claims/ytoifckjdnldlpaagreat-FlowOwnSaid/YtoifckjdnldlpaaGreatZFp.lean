/- flow.At, and the chapter's example. -/
import Derived.Test.YtoifckjdnldlpaaGreatZFn
set_option linter.unusedVariables false
set_option linter.unusedSimpArgs false
namespace Am
open Go Go.Proofs.Tryz
def atS (s : Sch) (a b : Int) : Option Tm := if 0 ≤ a ∧ a < s.funs.length ∧ 0 ≤ b ∧ b < ((s.funs.getD a.toNat default).body.nodes : Nat) then some (ndS s (a.toNat, b.toNat)).1 else none
theorem flow_at_c {s : Sch} (H : SOk s) (a b : Int) {h : Heap} {Q : AV → Heap → Prop} (hq : Q (match atS s a b with
    | some t => .tup [.ro (tmC t), B true]
    | none => .tup [.val (.pointer none), B false]) h) : ACalls prog n_flow_at [sm s, .agg [I a, I b]] h Q := by
  refine flow_at_call ?_
  unfold flow_at sm
  simp only [w_agg, List.length_cons, List.length_nil, true_and, g_0, g_1, w_lss, w_brA]
  by_cases h1 : a < 0
  · have : atS s a b = none := if_neg fun h => by omega
    rw [this] at hq
    simp only [h1, decide_true, if_true]
    exact retA_of hq
  simp only [h1, decide_false, Bool.false_eq_true, if_false, w_len_rs, fnCs_len, w_geq, w_brA]
  by_cases h2 : (s.funs.length : Int) ≤ a
  · have : atS s a b = none := if_neg fun h => by omega
    rw [this] at hq
    simp only [h2, decide_true, if_true]
    exact retA_of hq
  simp only [h2, decide_false, Bool.false_eq_true, if_false]
  obtain ⟨f, rfl⟩ : ∃ f : Nat, a = f := ⟨a.toNat, by omega⟩
  have hf : f < s.funs.length := by omega
  have hbody := H.body (getD_mem hf)
  refine ix_rs (by rw [fnCs_len]; exact hf) (fn_get hf) ?_
  rw [fnC, w_fld_ro, List.drop_succ_cons, List.drop_succ_cons, List.drop_zero, ← tmC_eq]
  refine callS_of (flow_nodes_c _ (by omega) ?_)
  simp only [w_len_rs, ndCs_len, ndF_len, w_lss, w_geq, w_brA]
  by_cases h3 : b < 0
  · have : atS s f b = none := if_neg fun h => by omega
    rw [this] at hq
    simp only [h3, decide_true, if_true]
    exact retA_of hq
  simp only [h3, decide_false, Bool.false_eq_true, if_false]
  by_cases h4 : ((s.funs.getD f default).body.nodes : Int) ≤ b
  · have : atS s f b = none := if_neg fun h => by rw [Int.toNat_natCast] at h; omega
    rw [this] at hq
    simp only [h4, decide_true, if_true]
    exact retA_of hq
  simp only [h4, decide_false, Bool.false_eq_true, if_false]
  obtain ⟨i, rfl⟩ : ∃ i : Nat, b = i := ⟨b.toNat, by omega⟩
  have hp : okP s (f, i) := ⟨hf, by show i < (s.funs.getD f default).body.nodes; omega⟩
  have e : atS s f i = some (ndS s (f, i)).1 := if_pos ⟨by omega, by omega, by omega, by rw [Int.toNat_natCast]; omega⟩
  rw [e] at hq
  refine ix_rs (by rw [ndCs_len, ndF_len]; exact hp.2) (nd_get hp) ?_
  rw [ndC, w_fld_ro, List.drop_zero, w_loadV_ro]
  exact retA_of hq
theorem flow_copied_o (t : Tm) : ∀ {h : Heap} {Q : AV → Heap → Prop}, t.nodes ≤ 1000000000 → (∀ x h', SlO 3 (tmCs t.kids) h x h' → Q (.agg [I t.lab.1, I t.lab.2, x]) h') → ACalls prog n_flow_copied [tm t] h Q := by
  refine Rt.ind (P := fun t => ∀ {h : Heap} {Q : AV → Heap → Prop}, t.nodes ≤ 1000000000 → (∀ x h', SlO 3 (tmCs t.kids) h x h' → Q (.agg [I t.lab.1, I t.lab.2, x]) h') → ACalls prog n_flow_copied [tm t] h Q) (fun a us ih => ?_) t
  intro h Q hn hq
  simp only [Rt.nodes] at hn
  have hul := Rt.length_le us
  refine flow_copied_call ?_
  unfold flow_copied tm
  simp only [tmC, w_agg, List.length_cons, List.length_nil, true_and, g_0, g_1, g_2, w_len_rs, tmCs_len]
  refine loop_up us.length (fun k σ h' => ∃ x, σ = [x, I k] ∧ SlO 3 (tmCs (us.take k)) h x h') ⟨.e0, rfl, by simp [tmCs]; exact SlO.nil 3⟩ (fun k σ' h' ⟨x, e, _⟩ => by rw [e]; rfl) ?_
  rintro k σ h' K hk ⟨x, rfl, hs⟩ hK
  simp only [g_0, g_1]
  by_cases hlt : k < us.length
  · have hlt' : (k : Int) < us.length := by omega
    have hkn := kid_nodes hlt
    simp only [w_lss, hlt', decide_true, w_brA, if_true]
    refine ix_rs (by simpa using hlt) (tmCs_get hlt) ?_
    rw [w_loadG_ro]
    refine ⟨by simp, callS_of ?_⟩
    simp only [tmC_0, tmC_1, tmC_2, tm_eta]
    refine ACalls.wk1 (ih us[k] (List.getElem_mem hlt) (by omega) fun y h2 hs2 => ?_)
    obtain ⟨r1, r2⟩ := hs2.wk (fun i hi => by
      have : i < us[k].kids.length := by simpa using hi
      rw [tmCs_get this]; simp)
    refine ⟨tm us[k], h', ?_, r2, ?_⟩
    · rw [← tm_eta]; exact Ref.aggs (.cons .refl (.cons .refl (.cons r1 .nil)))
    · rw [← tm_eta]
      simp only [w_agg, List.length_cons, List.length_nil, true_and, g_0, g_1, g_2]
      refine hs.app (by simp only [tmCs_len, List.length_take, List.length_cons, List.length_nil]; omega) fun x2 h3 hs3 => ?_
      rw [w_add, wrap_k (k := k) (by omega)]
      refine hK hlt _ _ ⟨x2, rfl, ?_⟩
      have e : tmCs (us.take (k + 1)) = tmCs (us.take k) ++ [[I us[k].lab.1, I us[k].lab.2, .rs 3 (tmCs us[k].kids)]] := by
        rw [List.take_succ_eq_append_getElem hlt, tmCs_app1]
      rw [e]; exact hs3
  · have hkn : k = us.length := by omega
    subst hkn
    simp only [w_lss, Int.lt_irrefl, decide_false, w_brA, Bool.false_eq_true, if_false]
    rw [List.take_length] at hs
    rw [hs.one]
    exact retA_of (hq x h' hs)
theorem flow_copied_f (t : Tm) (hn : t.nodes ≤ 1000000000) {h : Heap} {Q : AV → Heap → Prop} (hq : Q (tm t) h) : ACalls prog n_flow_copied [tm t] h Q := by
  refine ACalls.wk1 (flow_copied_o t hn fun y h2 hs2 => ?_)
  obtain ⟨r1, r2⟩ := hs2.wk (fun i hi => by
    have : i < t.kids.length := by simpa using hi
    rw [tmCs_get this]; simp)
  refine ⟨tm t, h, ?_, r2, hq⟩
  rw [← tm_eta]; exact Ref.aggs (.cons .refl (.cons .refl (.cons r1 .nil)))
theorem atS_nodes {s : Sch} (H : SOk s) {a b : Int} {t : Tm} (h : atS s a b = some t) : t.nodes ≤ 400 := by
  unfold atS at h
  split at h
  · rename_i hc
    have hp : okP s (a.toNat, b.toNat) := ⟨by show a.toNat < s.funs.length; omega, by show b.toNat < (s.funs.getD a.toNat default).body.nodes; omega⟩
    have e : (ndS s (a.toNat, b.toNat)).1 = t := by simpa using h
    rw [← e]
    have := nd_nodes _ _ _ (List.mem_of_getElem? (ndS_get hp))
    have := H.body (getD_mem hp.1)
    omega
  · cases h
def atR : Option Tm → AV
  | some t => .tup [tm t, I 0]
  | none => .tup [.agg [I 0, I 0, .e0], I 2]
theorem flow_At_c {s : Sch} (H : SOk s) (a b : Int) {h : Heap} {Q : AV → Heap → Prop} (hq : Q (atR (atS s a b)) h) : ACalls prog n_flow_At [sm s, .agg [I a, I b]] h Q := by
  refine flow_At_call ?_
  unfold flow_At sm
  simp only [w_agg, List.length_cons, List.length_nil, true_and, g_0, g_1]
  refine callS_of (scheme_Check_c s ?_)
  rw [if_pos ((schB_iff s).2 H), w_neq, w_brA]
  simp only [decide_true, Bool.not_true, Bool.false_eq_true, if_false]
  refine callS_of (flow_at_c H a b ?_)
  cases he : atS s a b with
  | none =>
    rw [he] at hq
    refine tp0 (tp1 ?_)
    simp only [w_notA, Bool.not_false, w_brA, if_true]
    exact retA_of hq
  | some t =>
    rw [he] at hq
    have hn := atS_nodes H he
    refine tp0 (tp1 ?_)
    simp only [w_notA, Bool.not_true, w_brA, Bool.false_eq_true, if_false, w_nil_ro]
    rw [w_loadG_ro]
    refine ⟨by simp, callS_of ?_⟩
    simp only [tmC_0, tmC_1, tmC_2, tm_eta]
    refine flow_copied_f t (by omega) ?_
    rw [← tm_eta]
    simp only [w_agg, List.length_cons, List.length_nil, true_and, g_0, g_1, g_2]
    rw [tm_eta]
    exact retA_of hq
theorem ex1_H : SOk ex1 := (schB_iff _).1 ex1_ok
theorem d00 : ndS ex1 (0, 0) = (.mk (1, 1) [leafT 2 2], [1]) := by kernel_rfl
theorem d01 : ndS ex1 (0, 1) = (leafT 2 2, []) := by kernel_rfl
theorem d10 : ndS ex1 (1, 0) = (.mk (2, 0) [leafT 0 0, .mk (1, 1) [.mk (2, 1) [leafT 0 0]]], [1, 2]) := by kernel_rfl
theorem d11 : ndS ex1 (1, 1) = (leafT 0 0, []) := by kernel_rfl
theorem d12 : ndS ex1 (1, 2) = (.mk (1, 1) [.mk (2, 1) [leafT 0 0]], [3]) := by kernel_rfl
theorem d13 : ndS ex1 (1, 3) = (.mk (2, 1) [leafT 0 0], [4]) := by kernel_rfl
theorem d14 : ndS ex1 (1, 4) = (leafT 0 0, []) := by kernel_rfl
theorem ex1_len : ex1.funs.length = 2 := by kernel_rfl
theorem ex1_n0 : (ex1.funs.getD 0 default).body.nodes = 2 := by kernel_rfl
theorem ex1_n1 : (ex1.funs.getD 1 default).body.nodes = 5 := by kernel_rfl
theorem ex1_a0 : ar ex1 0 = 0 := by kernel_rfl
theorem ex1_a1 : ar ex1 1 = 1 := by kernel_rfl
theorem ex1_okP {p : Pc} (h : okP ex1 p) : p = (0, 0) ∨ p = (0, 1) ∨ p = (1, 0) ∨ p = (1, 1) ∨ p = (1, 2) ∨ p = (1, 3) ∨ p = (1, 4) := by
  obtain ⟨a, b⟩ := p
  obtain ⟨h1, h2⟩ := h
  rw [ex1_len] at h1
  match a, h1 with
  | 0, _ =>
    simp only [ex1_n0] at h2
    match b, h2 with
    | 0, _ => simp
    | 1, _ => simp
  | 1, _ =>
    simp only [ex1_n1] at h2
    match b, h2 with
    | 0, _ => simp
    | 1, _ => simp
    | 2, _ => simp
    | 3, _ => simp
    | 4, _ => simp
theorem ex1_Fl {R : Nat → Prop} {b : Bool} {x y : Pc} (h : FlP ex1 R b x y) : (b = false → (x = (0, 0) ∨ x = (1, 2)) ∧ y = (1, 0)) ∧ (b = true → x = (1, 0) ∧ (y = (0, 1) ∨ y = (1, 3))) := by
  induction h with
  | @fn p g hp hl =>
    refine ⟨fun _ => ?_, fun h => by cases h⟩
    rcases ex1_okP hp with rfl | rfl | rfl | rfl | rfl | rfl | rfl <;> simp [labP, d00, d01, d10, d11, d12, d13, d14, leafT, Rt.lab] at hl
    · exact ⟨.inl rfl, by have : g = 1 := by omega
                          rw [this]⟩
    · exact ⟨.inr rfl, by have : g = 1 := by omega
                          rw [this]⟩
  | @var q p h i hq hl _ _ ihc ihh =>
    obtain ⟨_, h1⟩ := ihc.2 rfl
    obtain ⟨h2, _⟩ := ihh.1 rfl
    rcases h1 with rfl | rfl <;> simp at h2
  | @arg p h j hp hr _ hj ha ih =>
    obtain ⟨h1, rfl⟩ := ih.1 rfl
    refine ⟨fun h => (by cases h), fun _ => ?_⟩
    have hj1 : j = 0 := by
      rcases h1 with rfl | rfl <;> simp [nA, d00, d12] at hj <;> omega
    subst hj1
    refine ⟨rfl, ?_⟩
    rcases h1 with rfl | rfl <;> simp [argAt, d00, d12]
theorem ex1_small : Small ex1 := by
  have : allPl ex1 = [(0, 0), (0, 1), (1, 0), (1, 1), (1, 2), (1, 3), (1, 4)] := by
    kernel_rfl
  unfold Small; rw [this]; simp
theorem ex1_flow {bl : List Bool} {F : Pc → List Pc} (hb : IsR ex1 bl) (hF : IsFlow ex1 bl F) : F (1, 0) = [(0, 1), (1, 3)] := by
  have r0 : bl.getD 0 false = true := (hb.2 0 (by rw [ex1_len]; omega)).2 .zero
  have r1 : bl.getD 1 false = true := (hb.2 1 (by rw [ex1_len]; omega)).2 (.step .zero (by rw [ex1_len]; omega) (by
    have : fcs (ex1.funs.getD 0 default).body = [1] := by kernel_rfl
    rw [this]; simp))
  have o0 : okP ex1 (0, 0) := ⟨by rw [ex1_len]; omega, by rw [ex1_n0]; omega⟩
  have o2 : okP ex1 (1, 2) := ⟨by rw [ex1_len]; omega, by rw [ex1_n1]; omega⟩
  have f0 : FlP ex1 (Rb bl) true (1, 0) (0, 1) := by
    have := FlP.arg (R := Rb bl) (j := 0) o0 r0 (.fn o0 (g := 1) (by simp [labP, d00, Rt.lab])) (by simp [nA, d00]) (by show 0 + 0 < ar ex1 1; rw [ex1_a1]; omega)
    simpa [argAt, d00] using this
  have f1 : FlP ex1 (Rb bl) true (1, 0) (1, 3) := by
    have := FlP.arg (R := Rb bl) (j := 0) o2 r1 (.fn o2 (g := 1) (by simp [labP, d12, Rt.lab])) (by simp [nA, d12]) (by show 0 + 0 < ar ex1 1; rw [ex1_a1]; omega)
    simpa [argAt, d12] using this
  obtain ⟨l, hn, e⟩ := hF.ord (1, 0)
  have hm : ∀ p, p ∈ l ↔ p = (0, 1) ∨ p = (1, 3) := fun p => by
    rw [← srtP_mem, ← e, hF.mem]
    exact ⟨fun h => ((ex1_Fl h).2 rfl).2, fun h => h.elim (fun h => h ▸ f0) fun h => h ▸ f1⟩
  rw [e]
  refine (srtP_uniq (l := l) (r := [(0, 1), (1, 3)]) ?_ (by decide)).symm
  refine (List.perm_ext_iff_of_nodup (by decide) hn).2 fun p => ?_
  rw [hm]; simp
theorem vlaw19_alive_c {h : Heap} {Q : AV → Heap → Prop} (hq : Q (B true) h) : ACalls prog n_vlaw19_alive [] h Q := by
  refine vlaw19_alive_call ?_
  unfold vlaw19_alive
  refine callS_of (ex1_Get ?_)
  refine tp0 (tp1 ?_)
  unfold sm
  simp only [w_agg, List.length_cons, List.length_nil, true_and, g_0, g_1]
  refine callS_of (flow_Flow_c ex1_H ex1_small fun bl F hb hF => ?_)
  refine tp0 (tp1 ?_)
  rw [w_one_v, w_one_v]
  refine callS_of (flow_At_c ex1_H 1 3 ?_)
  have ea : atS ex1 1 3 = some (.mk (2, 1) [leafT 0 0]) := by
    unfold atS
    rw [if_pos ⟨by omega, by rw [ex1_len]; omega, by omega, by show (3 : Int) < ((ex1.funs.getD 1 default).body.nodes : Nat); rw [ex1_n1]; omega⟩]
    show some (ndS ex1 (1, 3)).1 = _
    rw [d13]
  rw [ea]
  refine tp0 (tp1 ?_)
  have e1 : (List.range ex1.funs.length).map (fun f => [AV.rs 1 ((List.range (ar ex1 f)).map fun i => [.rs 2 ((F (f, i)).map plC)])]) = [[.rs 1 []], [.rs 1 [[.rs 2 [plC (0, 1), plC (1, 3)]]]]] := by
    rw [ex1_len]
    simp [List.range_succ, ex1_a0, ex1_a1, ex1_flow hb hF]
  unfold flowC
  rw [e1]
  unfold tm
  simp only [tmC, w_agg, List.length_cons, List.length_nil, true_and, g_0, g_1, w_eql, w_brA, decide_true, if_true, w_len_rs]
  rw [if_pos (by decide)]
  refine ix_rs (n := 1) (cs := [.rs 1 [[.rs 2 [plC (0, 1), plC (1, 3)]]]]) (by simp) rfl ?_
  rw [w_loadV_ro, w_len_rs, w_eql, w_brA, if_pos (by decide)]
  refine ix_rs (n := 1) (cs := [.rs 1 [[.rs 2 [plC (0, 1), plC (1, 3)]]]]) (by simp) rfl ?_
  rw [w_loadV_ro]
  refine ix_rs (n := 0) (cs := [.rs 2 [plC (0, 1), plC (1, 3)]]) (by simp) rfl ?_
  rw [w_loadV_ro, w_len_rs, w_eql, w_brA, if_pos (by decide)]
  refine ix_rs (n := 1) (cs := [.rs 1 [[.rs 2 [plC (0, 1), plC (1, 3)]]]]) (by simp) rfl ?_
  rw [w_loadV_ro]
  refine ix_rs (n := 0) (cs := [.rs 2 [plC (0, 1), plC (1, 3)]]) (by simp) rfl ?_
  rw [w_loadV_ro]
  refine ix_rs (n := 1) (cs := plC (1, 3)) (by simp) rfl ?_
  rw [w_loadG_ro]
  refine ⟨by simp, ?_⟩
  rw [w_one_v, w_one_v]
  refine ⟨rfl, rfl, ?_⟩
  show brA (B true) _ _
  rw [w_brA, if_pos rfl]
  exact retA_of hq
end Am
