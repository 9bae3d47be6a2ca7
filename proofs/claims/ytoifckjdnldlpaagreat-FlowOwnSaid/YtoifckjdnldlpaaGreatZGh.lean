/- FlowComes answers true. -/
import Derived.Test.YtoifckjdnldlpaaGreatZGf
set_option linter.unusedVariables false
set_option linter.unusedSimpArgs false
namespace Am
open Go Go.Proofs.Tryz
def anyM (s : Sch) (l : List Pc) (t : Tm) : Bool := l.any fun p => (mtch (ndS s p).1 t []).isSome
theorem anyM_drop {s : Sch} {l : List Pc} {t : Tm} {k : Nat} (hk : k < l.length) : anyM s (l.drop k) t = ((mtch (ndS s l[k]).1 t []).isSome || anyM s (l.drop (k + 1)) t) := by
  unfold anyM
  rw [List.drop_eq_getElem_cons hk, List.any_cons]
def inK (s : Sch) (a b : Int) : Prop := 0 ≤ a ∧ a < s.funs.length ∧ 0 ≤ b ∧ b < (ar s a.toNat : Nat)
structure ComQ (s : Sch) (a b : Int) (t : Tm) (q : AV → Prop) : Prop where
  no : ¬ SOk s → q (.tup [B false, I 7])
  out : SOk s → ¬ inK s a b → q (.tup [B false, I 2])
  big : SOk s → inK s a b → 100000 < t.nodes → q (.tup [B false, I 3])
  yes : SOk s → inK s a b → ¬ 100000 < t.nodes → ∀ bl F, IsR s bl → IsFlow s bl F → q (.tup [B (anyM s (F (a.toNat, b.toNat)) t), I 0])
theorem schB_no {s : Sch} (H : ¬ SOk s) : schB s = false := by
  cases h : schB s with
  | false => rfl
  | true => exact absurd ((schB_iff s).1 h) H
theorem nd_small {s : Sch} (H : SOk s) {p : Pc} (hp : okP s p) : (ndS s p).1.nodes ≤ 400 := by
  have h1 := nd_nodes _ _ _ (List.mem_of_getElem? (ndS_get hp))
  have h2 := H.body (getD_mem hp.1)
  omega
theorem flow_Comes_c (s : Sch) (a b : Int) (t : Tm) (Sm : SOk s → Small s) {h : Heap} {Q : AV → Heap → Prop} (hq : ComQ s a b t fun x => Q x h) : ACalls prog n_flow_Comes [sm s, I a, I b, tm t] h Q := by
  refine flow_Comes_call ?_
  unfold flow_Comes sm
  rw [show tm t = .agg [I t.lab.1, I t.lab.2, .rs 3 (tmCs t.kids)] from (tm_eta t).symm]
  simp only [w_agg, List.length_cons, List.length_nil, true_and, g_0, g_1, g_2]
  refine callS_of (scheme_Check_c s ?_)
  by_cases H : SOk s
  case neg =>
    rw [schB_no H, w_neq, w_brA]
    simp only [Bool.false_eq_true, if_false, show ¬ ((7 : Int) = 0) by omega, decide_false, Bool.not_false, if_true]
    exact retA_of (hq.no H)
  rw [if_pos ((schB_iff s).2 H), w_neq, w_brA]
  simp only [decide_true, Bool.not_true, Bool.false_eq_true, if_false, w_lss, w_brA, w_len_rs, fnCs_len, w_geq]
  by_cases h1 : a < 0
  · simp only [h1, decide_true, if_true]
    exact retA_of (hq.out H fun h => by have := h.1; omega)
  simp only [h1, decide_false, Bool.false_eq_true, if_false]
  by_cases h2 : (s.funs.length : Int) ≤ a
  · simp only [h2, decide_true, if_true]
    exact retA_of (hq.out H fun h => by have := h.2.1; omega)
  simp only [h2, decide_false, Bool.false_eq_true, if_false]
  by_cases h3 : b < 0
  · simp only [h3, decide_true, if_true]
    exact retA_of (hq.out H fun h => by have := h.2.2.1; omega)
  simp only [h3, decide_false, Bool.false_eq_true, if_false]
  obtain ⟨f, rfl⟩ : ∃ f : Nat, a = f := ⟨a.toNat, by omega⟩
  obtain ⟨i, rfl⟩ : ∃ i : Nat, b = i := ⟨b.toNat, by omega⟩
  have hf : f < s.funs.length := by omega
  refine rd_srt' hf ?_
  have earr : (srtOf s f).kids.length = ar s f := rfl
  simp only [w_len_rs, srCs_len, earr, w_geq, w_brA]
  by_cases h4 : ((ar s f : Nat) : Int) ≤ i
  · simp only [h4, decide_true, if_true]
    exact retA_of (hq.out H fun h => by have := h.2.2.2; rw [Int.toNat_natCast] at this; omega)
  simp only [h4, decide_false, Bool.false_eq_true, if_false]
  have hi : i < ar s f := by omega
  have hin : inK s f i := ⟨by omega, by omega, by omega, by rw [Int.toNat_natCast]; omega⟩
  rw [tm_eta]
  refine callS_of (term_Size_c t (tp0 (tp1 ?_)))
  rw [w_gtr, w_brA]
  by_cases hbig : 100000 < t.nodes
  · have : (100000 : Int) < szN 100000 t := by unfold szN; rw [if_neg (by omega)]; omega
    simp only [this, decide_true, if_true]
    exact retA_of (hq.big H hin hbig)
  have : ¬ (100000 : Int) < szN 100000 t := by unfold szN; rw [if_pos (by omega)]; omega
  simp only [this, decide_false, Bool.false_eq_true, if_false]
  rw [sm_eta]
  refine callS_of (flow_Flow_c H (Sm H) fun bl F hbl hF => tp0 (tp1 ?_))
  simp only [w_neq, decide_true, Bool.not_true, w_brA, Bool.false_eq_true, if_false]
  have hy := hq.yes H hin hbig bl F hbl hF
  rw [Int.toNat_natCast, Int.toNat_natCast] at hy
  refine rd_flow F hf (rd_row F hi ?_)
  rw [w_len_rs, List.length_map]
  have hFl := hF.len H (Sm H) (f, i)
  refine loop_upW (F (f, i)).length (fun k σ' h' => σ' = [I k] ∧ h' = h ∧ anyM s (F (f, i)) t = anyM s ((F (f, i)).drop k) t) (Wk.refl ⟨rfl, rfl, by simp⟩) (fun k σ' h' ⟨e, _⟩ => by rw [e]; rfl) ?_
  rintro k σ' h' K hk ⟨rfl, rfl, he⟩ hK
  simp only [g_0]
  by_cases hlt : k < (F (f, i)).length
  case neg =>
    have : k = (F (f, i)).length := by omega
    subst this
    simp only [w_lss, Int.lt_irrefl, decide_false, w_brA, Bool.false_eq_true, if_false]
    rw [List.drop_length] at he
    rw [he] at hy
    exact retA_of hy
  have hlt' : (k : Int) < (F (f, i)).length := by omega
  simp only [w_lss, hlt', decide_true, w_brA, if_true]
  refine ix_rs (by simpa using hlt) (plC_get hlt) ?_
  rw [w_loadG_ro]
  refine ⟨by simp, ?_⟩
  simp only [List.drop_zero, g_0, g_1]
  rw [anyM_drop hlt] at he
  obtain ⟨p, hp⟩ : ∃ p, p = (F (f, i))[k] := ⟨_, rfl⟩
  rw [← hp] at he ⊢
  have hm : FlP s (Rb bl) true (f, i) p := by rw [← hF.mem, hp]; exact List.getElem_mem hlt
  obtain ⟨_, t2, t3, t4⟩ := (hm.typed H).2 rfl
  have hn4 := nd_small H t2
  refine callS_of (flow_at_c H (p.1 : Nat) (p.2 : Nat) ?_)
  rw [atS_ok t2]
  refine tp0 (tp1 ?_)
  rw [w_nil_ro, w_loadG_ro]
  refine ⟨by simp, ?_⟩
  intro m hmn
  rw [w_loadG_ro]
  refine ⟨⟨by simp, rfl⟩, ?_⟩
  simp only [List.drop_zero, tmC_0, tmC_1, tmC_2, tm_eta]
  refine callS_of (flow_match_c m (ndS s p).1 t [] (Heap.set_same _ _ _) (by omega) (by omega) (fun e he => by cases he) (fun hn es' => ?_) fun es' hs _ => ?_)
  · rw [hn] at he
    simp only [w_brA, Bool.false_eq_true, if_false]
    rw [w_add, wrap_k (k := k) (by omega), Heap.set_set]
    exact hK hlt _ _ (Wk.none (HRef.drop hmn) ⟨rfl, rfl, by simpa using he⟩)
  · rw [hs] at he
    simp only [w_brA, if_true]
    rw [Heap.set_set]
    have he' : anyM s (F (f, i)) t = true := by simpa using he
    rw [he'] at hy
    exact retA_wk .refl (HRef.drop hmn) hy
end Am
