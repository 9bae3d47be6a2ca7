/- The laws of chapter 02 answer true. -/
import Derived.Test.YtoifckjdnldlpaaFL02
import Derived.Test.YtoifckjdnldlpaaLi
set_option linter.unusedVariables false
set_option linter.unusedSimpArgs false
namespace Am
open Go Go.Proofs.Try
open Rt (eqR eqRL eqR_iff)
theorem law_TermCheck (p : Pl) {h : Heap} {Q : AV → Heap → Prop} (hq : Q (B true) h) : ACalls prog 3 [pl p] h Q := by
  refine vlaw02_TermCheck_call ?_
  unfold vlaw02_TermCheck pl
  simp
  refine callS_of ?_
  simp only [pl_eta]
  refine vlaw02_given_c p ?_
  refine callS_of (term_Check_c p ?_)
  refine callS_of (vref02_Check_c p ?_)
  simp
  exact callS_of (vlaw02_alive_c (retA_of hq))
theorem sortE_nodes (p : Pl) (t : Tm) : (sortE p t).1.nodes ≤ 60 := by
  unfold sortE
  cases hp : plB p with
  | false => simp; decide
  | true =>
    simp
    split
    · decide
    split
    · exact okS_nodes (sortR_ok (plB_ok hp) t)
    · decide
theorem law_TermSort (p : Pl) (t : Tm) {h : Heap} {Q : AV → Heap → Prop} (hq : Q (B true) h) : ACalls prog 4 [pl p, tm t] h Q := by
  refine vlaw02_TermSort_call ?_
  unfold vlaw02_TermSort
  simp [pl, tm]
  refine callS_of ?_
  simp only [pl_eta]
  refine vlaw02_given_c p ?_
  refine callS_of ?_
  simp only [tm_eta]
  refine term_Sort_c p t ?_
  simp [sr]
  refine callS_of ?_
  refine vref02_Sort_c p t ?_
  simp [sr]
  refine callS_of ?_
  simp only [sr_eta]
  refine vref01_Same_c _ _ ?_
  simp [sortE_nodes p t, Rt.eqR_refl]
  exact callS_of (vlaw02_alive_c (retA_of hq))
theorem law_TermSize (t u : Tm) {h : Heap} {Q : AV → Heap → Prop} (hq : Q (B true) h) : ACalls prog 8 [tm t, tm u] h Q := by
  refine vlaw02_TermSize_call ?_
  unfold vlaw02_TermSize
  simp [tm]
  refine callS_of ?_
  simp only [tm_eta]
  refine term_Size_c t ?_
  simp
  refine callS_of (vref02_Size_c t ?_)
  simp
  refine callS_of (term_Same_c t u ?_)
  refine callS_of (vref02_Same_c t u ?_)
  simp
  refine callS_of (term_Same_c t t ?_)
  refine callS_of (vref02_Same_c t t ?_)
  simp
  exact callS_of (vlaw02_alive_c (retA_of hq))
theorem substE_nodes (t : Tm) (args : List Tm) : (substE t args).1.nodes ≤ 100000 := by
  unfold substE
  split
  · decide
  split
  · decide
  split
  · decide
  · simp; omega
theorem law_TermSubst (t : Tm) (args : List Tm) (hal : args.length ≤ 10000000000000) {h : Heap} {Q : AV → Heap → Prop} (hq : Q (B true) h) : ACalls prog 5 [tm t, .rs 3 (tmCs args)] h Q := by
  refine vlaw02_TermSubst_call ?_
  unfold vlaw02_TermSubst
  simp [tm]
  refine callS_of ?_
  simp only [tm_eta]
  refine vlaw02_different_c t fun b => ?_
  cases b with
  | true => simp; exact callS_of (vlaw02_alive_c (retA_of hq))
  | false =>
    simp
    refine callS_of (term_Subst_c t args (by omega) ?_)
    simp [tm]
    refine callS_of ?_
    simp only [tm_eta]
    refine vref02_Subst_c t args (by omega) (by omega) ?_
    simp [tm]
    refine callS_of ?_
    simp only [tm_eta]
    refine vlaw02_is_c _ _ _ _ ?_
    simp [substE_nodes t args, Rt.eqR_refl]
    exact callS_of (vlaw02_alive_c (retA_of hq))
theorem appE_nodes (t : Tm) (args : List Tm) : (appE t args).1.nodes ≤ 100000 := by
  unfold appE
  split
  · decide
  · simp only [Rt.nodes, Rt.nodesL_append]
    have := nodes_eta t
    omega
theorem law_TermApply (t : Tm) (args : List Tm) (hal : args.length ≤ 10000000000000) {h : Heap} {Q : AV → Heap → Prop} (hq : Q (B true) h) : ACalls prog 10 [tm t, .rs 3 (tmCs args)] h Q := by
  refine vlaw02_TermApply_call ?_
  unfold vlaw02_TermApply
  simp [tm]
  refine callS_of ?_
  simp only [tm_eta]
  refine term_Apply_c t args hal ?_
  simp [tm]
  refine callS_of ?_
  simp only [tm_eta]
  refine vref02_Apply_c t args ?_
  simp [tm]
  refine callS_of ?_
  simp only [tm_eta]
  refine vlaw02_is_c _ _ _ _ ?_
  simp [appE_nodes t args, Rt.eqR_refl]
  exact callS_of (vlaw02_alive_c (retA_of hq))
/-! ### TermTwice -/
theorem vokL_mem {n : Nat} {us : List Tm} (h : vokL n us = true) : ∀ t, t ∈ us → vok n t = true := by
  induction us with
  | nil => intro t ht; cases ht
  | cons u us ih =>
    intro t ht
    simp only [vokL, Bool.and_eq_true] at h
    rcases List.mem_cons.1 ht with rfl | ht
    · exact h.1
    · exact ih h.2 t ht
theorem sub_parts (more : List Tm) (l : Int × Int) (us : List Tm) : sub more (.mk l us) = if l.1 = 0 then .mk (more.getD l.2.toNat default).lab ((more.getD l.2.toNat default).kids ++ us.map (sub more)) else .mk l (us.map (sub more)) := by
  unfold sub; rw [subL_eq]
theorem sub_twice (args more : List Tm) (t : Tm) : vok args.length t = true → sub more (sub args t) = sub (args.map (sub more)) t := by
  refine Rt.ind (P := fun t => vok args.length t = true → sub more (sub args t) = sub (args.map (sub more)) t) (fun a us ih => ?_) t
  intro hv
  simp only [vok, Bool.and_eq_true, Bool.or_eq_true, decide_eq_true_eq] at hv
  obtain ⟨hvl, hv⟩ := hv
  have hm : (us.map (sub args)).map (sub more) = us.map (sub (args.map (sub more))) := by
    rw [List.map_map]
    exact List.map_congr_left fun t ht => ih t ht (vokL_mem hvl t ht)
  rw [sub_parts args, sub_parts (args.map (sub more))]
  by_cases k0 : a.1 = 0
  · have hk : a.2.toNat < args.length := by omega
    simp only [k0, if_true]
    have e1 : args.getD a.2.toNat default = args[a.2.toNat] := by simp [List.getD_eq_getElem?_getD, hk]
    have e2 : (args.map (sub more)).getD a.2.toNat default = sub more args[a.2.toNat] := by simp [List.getD_eq_getElem?_getD, hk]
    rw [e1, e2]
    obtain ⟨l, ks⟩ := args[a.2.toNat]
    simp only [Rt.lab, Rt.kids]
    rw [sub_parts more l (ks ++ us.map (sub args)), sub_parts more l ks, List.map_append, hm]
    by_cases l0 : l.1 = 0
    · simp [l0]
    · simp [l0]
  · simp only [k0, if_false]
    rw [sub_parts more]
    simp only [k0, if_false]
    rw [hm]
theorem substE_ok {t : Tm} {args : List Tm} (h : (substE t args).2 = 0) : (substE t args).1 = sub args t ∧ t.nodes ≤ 100000 ∧ bigs args = false ∧ vok args.length t = true ∧ (sub args t).nodes ≤ 100000 := by
  unfold substE at h ⊢
  split at h
  · cases h
  · rename_i h1
    simp only [Bool.or_eq_true, decide_eq_true_eq, not_or] at h1
    split at h
    · cases h
    · rename_i h2
      split at h
      · cases h
      · rename_i h3
        have hb : bigs args = false := by cases hb : bigs args <;> simp_all
        have hv : vok args.length t = true := by cases hv : vok args.length t <;> simp_all
        refine ⟨?_, by omega, hb, hv, by omega⟩
        simp [show ¬ 100000 < t.nodes by omega, hb, hv, h3]
theorem substE_mk {t : Tm} {args : List Tm} (h1 : t.nodes ≤ 100000) (h2 : bigs args = false) (h3 : vok args.length t = true) (h4 : (sub args t).nodes ≤ 100000) : substE t args = (sub args t, 0) := by
  unfold substE
  simp [show ¬ 100000 < t.nodes by omega, h2, h3, show ¬ 100000 < (sub args t).nodes by omega]
theorem law_TermTwice (t : Tm) (args more : List Tm) (hal : args.length ≤ 10000000000000) (hml : more.length ≤ 10000000000000) {h : Heap} {Q : AV → Heap → Prop} (hq : ∀ h', HRef h' h → retA (B true) h' Q) : ACalls prog 9 [tm t, .rs 3 (tmCs args), .rs 3 (tmCs more)] h Q := by
  have hq0 := hq h (HRef.refl _)
  refine vlaw02_TermTwice_call ?_
  unfold vlaw02_TermTwice
  simp [tm]
  refine callS_of ?_
  simp only [tm_eta]
  refine term_Subst_c t args (by omega) ?_
  simp [tm]
  by_cases c1 : (substE t args).2 = 0
  case neg => simp [c1]; exact callS_of (vlaw02_alive_c hq0)
  obtain ⟨s1, s2, s3, s4, s5⟩ := substE_ok c1
  simp [c1]
  by_cases c2 : 1000 < args.length
  · have c2' : (1000 : Int) < args.length := by omega
    simp [c2']; exact callS_of (vlaw02_alive_c hq0)
  have c2' : ¬ (1000 : Int) < args.length := by omega
  simp [c2']
  refine callS_of ?_
  simp only [tm_eta]
  refine term_Subst_c _ more (by omega) ?_
  simp [tm]
  by_cases c3 : (substE (substE t args).1 more).2 = 0
  case neg => simp [c3]; exact callS_of (vlaw02_alive_c hq0)
  obtain ⟨r1, r2, r3, r4, r5⟩ := substE_ok c3
  simp [c3]
  rw [s1] at r1 r4 r5 ⊢
  refine loop_up args.length (fun k σ h' => ∃ x, σ = [x, I k] ∧ SlO 3 (tmCs ((args.map (sub more)).take k)) h x h' ∧ ∀ y, y ∈ (args.map (sub more)).take k → y.nodes ≤ 100000) ⟨.e0, rfl, by simp [tmCs]; exact SlO.nil 3, by simp⟩ (fun k σ' h' ⟨x, e, _⟩ => by rw [e]; rfl) ?_
  rintro k σ' h' K hk ⟨x, rfl, hs, hsm⟩ hK
  by_cases hlt : k < args.length
  · have hlt' : (k : Int) < args.length := by omega
    simp [hlt', hlt]
    refine callS_of ?_
    simp only [tm_eta]
    refine term_Subst_c _ more (by omega) ?_
    simp [tm]
    by_cases c4 : (substE args[k] more).2 = 0
    · obtain ⟨q1, q2, q3, q4, q5⟩ := substE_ok c4
      simp [c4]
      rw [q1]
      have hl2 : ((args.map (sub more)).take k).length = k := by simp; omega
      refine hs.app (by simp only [tmCs_len, hl2, List.length_cons, List.length_nil]; omega) fun x2 h3 hs2 => ?_
      rw [wrap_k (k := k) (by omega)]
      have e : (args.map (sub more)).take (k + 1) = (args.map (sub more)).take k ++ [sub more args[k]] := by
        rw [List.take_succ_eq_append_getElem (by simpa using hlt)]; simp
      refine hK hlt _ _ ⟨x2, rfl, ?_, fun y hy => ?_⟩
      · rw [e, tmCs_eq, List.map_append, ← tmCs_eq]
        simp only [List.map_cons, List.map_nil, tmC_e]
        exact hs2
      · rw [e, List.mem_append] at hy
        rcases hy with hy | hy
        · exact hsm y hy
        · simp at hy; rw [hy]; exact q5
    · simp [c4]
      exact callS_of (vlaw02_alive_c (hq h' hs.href))
  · have hkn : k = args.length := by omega
    subst hkn
    have hl2 : (args.map (sub more)).take args.length = args.map (sub more) := List.take_of_length_le (by simp)
    rw [hl2] at hs hsm
    simp
    obtain ⟨g1, g2⟩ := hs.wk (tmCs_sz _)
    refine callS_wk (args' := [tm t, .rs 3 (tmCs (args.map (sub more)))]) (.cons .refl (.cons g1 .nil)) g2 ?_
    have hbig : bigs (args.map (sub more)) = false := by
      unfold bigs
      rw [List.any_eq_false]
      intro y hy
      have := hsm y hy
      simp; omega
    refine term_Subst_c t _ (by simp; omega) ?_
    rw [substE_mk s2 hbig (by simpa using s4) (by rw [← sub_twice args more t s4]; exact r5), ← sub_twice args more t s4]
    simp [tm]
    refine callS_of ?_
    simp only [tm_eta]
    rw [r1]
    refine term_Same_c _ _ ?_
    simp [r5, Rt.eqR_refl]
    exact callS_of (vlaw02_alive_c hq0)
/-! ### TermNodes -/
def sumI (f : Nat → Int) : Nat → Int
  | 0 => 0
  | n + 1 => sumI f n + f n
theorem sumI_add (f g : Nat → Int) (n : Nat) : sumI (fun i => f i + g i) n = sumI f n + sumI g n := by
  induction n with
  | zero => rfl
  | succ n ih => simp only [sumI, ih]; omega
theorem sumI_congr {f g : Nat → Int} (n : Nat) (h : ∀ i, i < n → f i = g i) : sumI f n = sumI g n := by
  induction n with
  | zero => rfl
  | succ n ih => simp only [sumI]; rw [ih fun i hi => h i (by omega), h n (by omega)]
theorem sumI_zero (n : Nat) : sumI (fun _ => 0) n = 0 := by
  induction n with
  | zero => rfl
  | succ n ih => simp only [sumI, ih]; omega
theorem sumI_one {n j : Nat} (hj : j < n) (v : Int) : sumI (fun i => if i = j then v else 0) n = v := by
  induction n with
  | zero => omega
  | succ n ih =>
    simp only [sumI]
    by_cases e : n = j
    · subst e
      rw [if_pos rfl, sumI_congr (g := fun _ => 0) n (fun i hi => if_neg (by omega)), sumI_zero]; omega
    · rw [if_neg e, ih (by omega)]; omega
def fN (args : List Tm) (t : Tm) (i : Nat) : Int := (cnt i t : Int) * (((args.getD i default).nodes : Int) - 1)
theorem sub_count (args : List Tm) (t : Tm) : vok args.length t = true → ((sub args t).nodes : Int) = t.nodes + sumI (fN args t) args.length := by
  refine Rt.ind (P := fun t => vok args.length t = true → ((sub args t).nodes : Int) = t.nodes + sumI (fN args t) args.length) (fun a us ih => ?_) t
  intro hv
  simp only [vok, Bool.and_eq_true, Bool.or_eq_true, decide_eq_true_eq] at hv
  obtain ⟨hvl, hv⟩ := hv
  have hL : (Rt.nodesL (subL args us) : Int) = Rt.nodesL us + sumI (fun i => (cntL i us : Int) * (((args.getD i default).nodes : Int) - 1)) args.length := by
    clear hv
    induction us with
    | nil => simp [subL, Rt.nodesL, cntL, sumI_zero]
    | cons u us ih2 =>
      simp only [vokL, Bool.and_eq_true] at hvl
      have h1 := ih u (by simp) hvl.1
      have h2 := ih2 (fun t ht => ih t (by simp [ht])) hvl.2
      simp only [subL, Rt.nodesL, cntL]
      have e : (fun i : Nat => ((cnt (i : Int) u + cntL (i : Int) us : Nat) : Int) * (((args.getD i default).nodes : Int) - 1)) = fun i => fN args u i + (cntL i us : Int) * (((args.getD i default).nodes : Int) - 1) := by
        funext i; unfold fN; rw [← Int.add_mul]; push_cast; rfl
      rw [e, sumI_add]
      omega
  have hB : ((base args a : Nat) : Int) = 1 + sumI (fun i => ((if a.1 = 0 ∧ a.2 = (i : Int) then 1 else 0 : Nat) : Int) * (((args.getD i default).nodes : Int) - 1)) args.length := by
    unfold base
    by_cases k0 : a.1 = 0
    · have hk : a.2.toNat < args.length := by omega
      rw [if_pos k0]
      have := sumI_one hk (((args.getD a.2.toNat default).nodes : Int) - 1)
      rw [sumI_congr (g := fun i => if i = a.2.toNat then ((args.getD a.2.toNat default).nodes : Int) - 1 else 0) args.length (fun i hi => ?_), this]
      · omega
      · by_cases e : i = a.2.toNat
        · subst e
          have : a.2 = ((a.2.toNat : Nat) : Int) := by omega
          simp [k0, ← this]
        · have : ¬ a.2 = (i : Int) := by omega
          simp [k0, this, e]
    · rw [if_neg k0, sumI_congr (g := fun _ => 0) args.length (fun i hi => by simp [k0]), sumI_zero]; omega
  rw [sub_nodes]
  simp only [Rt.nodes]
  have e : fN args (.mk a us) = fun i : Nat => ((if a.1 = 0 ∧ a.2 = (i : Int) then 1 else 0 : Nat) : Int) * (((args.getD i default).nodes : Int) - 1) + (cntL i us : Int) * (((args.getD i default).nodes : Int) - 1) := by
    funext i; unfold fN; rw [← Int.add_mul]; simp only [cnt]; push_cast; rfl
  rw [e, sumI_add]
  omega
theorem law_TermNodes (t : Tm) (args : List Tm) (hal : args.length ≤ 10000000000000) {h : Heap} {Q : AV → Heap → Prop} (hq : Q (B true) h) : ACalls prog 7 [tm t, .rs 3 (tmCs args)] h Q := by
  refine vlaw02_TermNodes_call ?_
  unfold vlaw02_TermNodes
  simp [tm]
  by_cases c0 : 20 < args.length
  · have c0' : (20 : Int) < args.length := by omega
    simp [c0']; exact callS_of (vlaw02_alive_c (retA_of hq))
  have c0' : ¬ (20 : Int) < args.length := by omega
  simp [c0']
  refine callS_of ?_
  simp only [tm_eta]
  refine term_Subst_c t args (by omega) ?_
  simp [tm]
  by_cases c1 : (substE t args).2 = 0
  case neg => simp [c1]; exact callS_of (vlaw02_alive_c (retA_of hq))
  obtain ⟨s1, s2, s3, s4, s5⟩ := substE_ok c1
  have ha := bigs_f s3
  simp [c1]
  refine callS_of ?_
  simp only [tm_eta]
  refine term_Size_c t ?_
  simp
  have e0 : szN 100000 t = t.nodes := by simp [szN, s2]
  rw [e0, s1]
  have hf : ∀ i, 0 ≤ fN args t i ∧ fN args t i ≤ 10000000000 := fun i => by
    unfold fN
    have h1 := cnt_le (i : Int) t
    have h2 := getD_nodes ha i
    have h3 := Rt.nodes_pos (args.getD i default)
    refine ⟨Int.mul_nonneg (by omega) (by omega), ?_⟩
    have := Int.mul_le_mul (a := (cnt (i : Int) t : Int)) (b := ((args.getD i default).nodes : Int) - 1) (c := 100000) (d := 100000) (by omega) (by omega) (by omega) (by omega)
    omega
  have hsum : ∀ k : Nat, 0 ≤ sumI (fN args t) k ∧ sumI (fN args t) k ≤ 10000000000 * k := fun k => by
    induction k with
    | zero => simp [sumI]
    | succ k ih => have := hf k; simp only [sumI]; omega
  refine loop_up args.length (fun k σ h' => σ = [I (t.nodes + sumI (fN args t) k), I k] ∧ h' = h) ⟨by simp [sumI], rfl⟩ (fun k σ' h' ⟨e, _⟩ => by rw [e]; rfl) ?_
  rintro k σ' h' K hk ⟨rfl, rfl⟩ hK
  by_cases hlt : k < args.length
  · have hlt' : (k : Int) < args.length := by omega
    simp [hlt', hlt]
    refine callS_of ?_
    simp only [tm_eta]
    refine term_Size_c _ ?_
    simp
    refine callS_of (vref02_Count_c k t (by omega) ?_)
    have hn := ha _ (List.getElem_mem hlt)
    have hp := Rt.nodes_pos args[k]
    have e1 : szN 100000 args[k] = args[k].nodes := by simp [szN, hn]
    have e2 : fN args t k = (cnt (k : Int) t : Int) * ((args[k].nodes : Int) - 1) := by simp [fN, List.getD_eq_getElem?_getD, hlt]
    have w1 : IntKind.i64.wrap ((args[k].nodes : Int) - 1) = (args[k].nodes : Int) - 1 := wrap_i64 (by omega) (by omega)
    have hfk := hf k
    have hsk := hsum k
    have w2 : IntKind.i64.wrap ((cnt (k : Int) t : Int) * ((args[k].nodes : Int) - 1)) = fN args t k := by rw [← e2, wrap_i64 (by omega) (by omega)]
    have w3 : IntKind.i64.wrap ((t.nodes : Int) + sumI (fN args t) k + fN args t k) = t.nodes + sumI (fN args t) (k + 1) := by simp only [sumI]; rw [wrap_i64 (by omega) (by omega)]; omega
    simp only [w_sub, w_mul, w_add, e1, w1, w2, w3, wrap_k (k := k) (show k ≤ 4611686018427387904 by omega)]
    exact hK hlt _ _ ⟨rfl, rfl⟩
  · have hkn : k = args.length := by omega
    subst hkn
    simp
    refine callS_of ?_
    refine term_Size_c _ ?_
    have e1 : szN 100000 (sub args t) = t.nodes + sumI (fN args t) args.length := by rw [← sub_count args t s4]; simp [szN, s5]
    simp [e1]
    exact callS_of (vlaw02_alive_c (retA_of hq))
end Am
