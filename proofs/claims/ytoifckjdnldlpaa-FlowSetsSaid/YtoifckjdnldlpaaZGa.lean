/- The reference: pass; the state at the fixed point. -/
import Derived.Test.YtoifckjdnldlpaaZFx
set_option linter.unusedVariables false
set_option linter.unusedSimpArgs false
namespace Am
open Go Go.Proofs.Try
theorem ndF_ix (t : Tm) : ∀ i q u l, (ndF i t)[q]? = some (u, l) → l = ixL (i + q + 1) u.kids := by
  refine Rt.ind (P := fun t => ∀ i q u l, (ndF i t)[q]? = some (u, l) → l = ixL (i + q + 1) u.kids) (fun a us ih => ?_) t
  intro i q u l h
  cases q with
  | zero =>
    simp only [ndF, List.getElem?_cons_zero, Option.some.injEq, Prod.mk.injEq] at h
    obtain ⟨rfl, rfl⟩ := h
    rfl
  | succ q =>
    simp only [ndF, List.getElem?_cons_succ] at h
    have hq : q < Rt.nodesL us := by
      have := (List.getElem?_eq_some_iff.1 h).1
      rwa [ndFL_len'] at this
    obtain ⟨m, hm, r, hr, e⟩ := nodesL_find hq
    rw [e, ndFL_get hm hr] at h
    have := ih us[m] (List.getElem_mem hm) _ _ _ _ h
    rw [this, e]
    congr 1
    omega
theorem arg_pos {s : Sch} {p : Pc} (hp : okP s p) {j : Nat} (hj : j < (ndS s p).1.kids.length) : argAt s p j = (p.1, p.2 + 1 + Rt.nodesL ((ndS s p).1.kids.take j)) := by
  have h := ndF_ix _ 0 p.2 (ndS s p).1 (ndS s p).2 (ndS_get hp)
  rw [argAt, h, List.getD_eq_getElem?_getD, ixL_get hj]
  simp
section
variable {s : Sch} {R : Nat → Prop} {σ : KS} {hb h : Heap} {l : Lo}
theorem step_cm (Rc : RC hb (conK s σ l) l h) {k : Pc} (hk : okK s k) (hs : Srtd (σ.cm k)) (hl : (σ.cm k).length ≤ 1000000) (p : Pc) {P : Nat} (hP : l .pa = P) {K : Heap → Prop}
    (hq : ∀ h', RC hb (conK s (σ.setC k (srtP (insK (σ.cm k) p))) l) l h' → K h') :
    callS prog n_vref19_addPlace [.rs 2 ((σ.cm k).map plC), .agg [I (p.1 : Nat), I (p.2 : Nat)]] h fun r_50 h_51 =>
      (loadV (.op P 0 4) h_51 fun x_60 => TV.av x_60 = TV.av (.rs 1 (CR s l))) ∧
      (idxA 1 (.rs 1 (CR s l)) (I (k.1 : Nat)) h_51 fun p_59 => TV.av p_59 = TV.av (.ro [.os (l (.tmp k.1)) (ar s k.1)])) ∧
      (loadV (.ro [.os (l (.tmp k.1)) (ar s k.1)]) h_51 fun x_58 => TV.av x_58 = TV.av (.os (l (.tmp k.1)) (ar s k.1))) ∧
      idxA 1 (.os (l (.tmp k.1)) (ar s k.1)) (I (k.2 : Nat)) h_51 fun p_52 => oneA r_50 <| storeG p_52 [r_50] h_51 K := by
  have xa : h P = some (.arr 5 [[.rs 2 (syCs s.syms), .rs 5 (fnCs s.funs), .rs 1 (NR s), .rs 1 (HR s l), .rs 1 (CR s l)]]) := by rw [← hP]; exact Rc.own .pa _ rfl
  have xr : h (l (.tmp k.1)) = some (.arr 1 ((List.range (ar s k.1)).map fun i => [.rs 2 ((σ.cm (k.1, i)).map plC)])) := Rc.own (.tmp k.1) _ (by simp only [conK, hk.1, if_true])
  have h2 : k.2 < ar s k.1 := hk.2
  refine callS_of (vref19_addPlace_c hs hl p ?_)
  refine ⟨ld xa (by omega) rfl rfl, ix_rs (by rw [CR_len]; exact hk.1) (CR_get hk.1) rfl, by rw [w_loadV_ro], ix_cm Rc hk ?_⟩
  rw [w_one_rs, w_store xr]
  have egd : ((List.range (ar s k.1)).map fun i => [AV.rs 2 ((σ.cm (k.1, i)).map plC)]).getD k.2 [] = [.rs 2 ((σ.cm k).map plC)] := by
    simp [List.getD_eq_getElem?_getD, h2]
  rw [egd]
  refine ⟨by simpa using h2, by simp, ?_⟩
  have R2 := Rc.upd (a := .tmp k.1) (.arr 1 (((List.range (ar s k.1)).map fun i => [AV.rs 2 ((σ.cm (k.1, i)).map plC)]).set k.2 [.rs 2 ((srtP (insK (σ.cm k) p)).map plC)])) (m := .arr 1 ((List.range (ar s k.1)).map fun i => [.rs 2 ((σ.cm (k.1, i)).map plC)])) (by simp only [conK, hk.1, if_true])
  refine hq _ (R2.weak fun a n ha => ?_)
  cases a with
  | tmp f =>
    by_cases e : f = k.1
    · subst e
      have : ((List.range (ar s k.1)).map fun i => [AV.rs 2 (((σ.setC k (srtP (insK (σ.cm k) p))).cm (k.1, i)).map plC)]) = ((List.range (ar s k.1)).map fun i => [AV.rs 2 ((σ.cm (k.1, i)).map plC)]).set k.2 [.rs 2 ((srtP (insK (σ.cm k) p)).map plC)] := by
        refine List.ext_getElem (by simp) fun j h1 h2 => ?_
        simp only [List.getElem_set, List.getElem_map, List.getElem_range]
        by_cases e : k.2 = j
        · subst e; rw [if_pos rfl]; simp [KS.setC]
        · have e' : ¬ ((k.1, j) : Pc) = k := fun h => e (congrArg Prod.snd h).symm
          rw [if_neg e]; simp only [KS.setC, if_neg e']
      simp only [conK, hk.1, if_true, this] at ha
      simpa [Con.set] using ha
    · have : ((List.range (ar s f)).map fun i => [AV.rs 2 (((σ.setC k (srtP (insK (σ.cm k) p))).cm (f, i)).map plC)]) = (List.range (ar s f)).map fun i => [AV.rs 2 ((σ.cm (f, i)).map plC)] := List.map_congr_left fun i _ => by
        have e' : ¬ ((f, i) : Pc) = k := fun h => e (congrArg Prod.fst h)
        simp only [KS.setC, if_neg e']
      simp only [conK, this] at ha
      rw [Con.set_ne (by simpa using e)]
      exact ha
  | _ =>
    rw [Con.set_ne (by simp)]
    exact ha
structure Pass (s : Sch) (R : Nat → Prop) (σ : KS) (q : Pc) (σ' : KS) : Prop where
  inv : KInv s R σ'
  hd : σ'.hd = σ.hd
  ext : ∀ k p, p ∈ σ.cm k → p ∈ σ'.cm k
  arg : ∀ h, h ∈ σ.hd q → ∀ j, j < nA s q → h.2 + j < ar s h.1 → argAt s q j ∈ σ'.cm (h.1, h.2 + j)
theorem vref19_pass_c (H : SOk s) (Sm : Small s) (I0 : KInv s R σ) (Rc : RC hb (conK s σ l) l h) {q : Pc} (hq : okP s q) (hr : R q.1) {Q : AV → Heap → Prop}
    (hQ : ∀ σ' h', Pass s R σ q σ' → RC hb (conK s σ' l) l h' → Q (.tup []) h') : ACalls prog n_vref19_state_pass [.op (l .pa) 0 0, I (q.1 : Nat), I (q.2 : Nat)] h Q := by
  refine vref19_state_pass_call ?_
  unfold vref19_state_pass
  have xa : ∀ {σ : KS} {h : Heap}, RC hb (conK s σ l) l h → h (l .pa) = some (.arr 5 [[.rs 2 (syCs s.syms), .rs 5 (fnCs s.funs), .rs 1 (NR s), .rs 1 (HR s l), .rs 1 (CR s l)]]) := fun {σ h} Rc => Rc.own .pa _ rfl
  have hna := nA_le H hq
  obtain ⟨hnk, hargs⟩ := nd_args hq
  have hndq := nd_nodes _ _ _ (List.mem_of_getElem? (ndS_get hq))
  have hbody := H.body (getD_mem hq.1)
  have hq2 : q.2 < nN s q.1 := hq.2
  have hnN := nN_le H hq.1
  refine rdK (x := .rs 1 (NR s)) (xa Rc) (by omega) rfl ?_
  refine ix_rs (by rw [NR_len]; exact hq.1) (NR_get hq.1) ?_
  rw [w_loadV_ro]
  refine ix_rs (by rw [tmCs_len, pre_len]; exact hq.2) (pre_lab hq) ?_
  rw [w_loadG_ro]
  refine ⟨by simp, ?_⟩
  simp only [tmC_2, w_len_rs, tmCs_len, ← hnk]
  refine rd_hd Rc rfl hq.1 (ix_hd Rc hq (ld_hd Rc hq (len_hV ?_)))
  have hhl := I0.hd_le H q
  refine loop_up (σ.hd q).length (fun a σ' h' => σ' = [I a] ∧ ∃ σ1, RC hb (conK s σ1 l) l h' ∧ KInv s R σ1 ∧ σ1.hd = σ.hd ∧ (∀ k p, p ∈ σ.cm k → p ∈ σ1.cm k) ∧
      ∀ b (hb : b < (σ.hd q).length), b < a → ∀ j, j < nA s q → (σ.hd q)[b].2 + j < ar s (σ.hd q)[b].1 → argAt s q j ∈ σ1.cm ((σ.hd q)[b].1, (σ.hd q)[b].2 + j)) ⟨rfl, σ, Rc, I0, rfl, fun _ _ h => h, fun b _ h0 => by omega⟩ (fun k σ' h' ⟨e, _⟩ => by rw [e]; rfl) ?_
  rintro a σ' h1 K ha ⟨rfl, σ1, R1, I1, d1, x1, f1⟩ hK
  simp only [g_0]
  by_cases hlt : a < (σ.hd q).length
  · have hlt' : (a : Int) < (σ.hd q).length := by omega
    simp only [w_lss, hlt', decide_true, w_brA, if_true]
    have hne : σ.hd q ≠ [] := fun e => by rw [e] at hlt; simp at hlt
    have hxv : hV σ l q = .os (l (.hm q)) (σ.hd q).length := by rw [hV, if_neg hne]
    have hxn : h1 (l (.hm q)) = some (.arr 2 ((σ.hd q).map plC)) := by
      rw [← d1]
      exact R1.own (.hm q) _ (by simp only [conK]; rw [if_pos ⟨hq.1, hq.2, by rw [d1]; exact hne⟩])
    rw [hxv, w_idx_os hxn]
    refine ⟨rfl, by omega, hlt', by simp, ?_⟩
    rw [Int.toNat_natCast, w_loadG_op hxn, plC_get hlt]
    refine ⟨by simpa using hlt, by omega, ?_⟩
    simp only [List.drop_zero, g_0, g_1]
    obtain ⟨hh, hhh⟩ : ∃ hh, hh = (σ.hd q)[a] := ⟨_, rfl⟩
    rw [← hhh]
    have hhF : FlP s R false q hh := I0.sh q hh (hhh ▸ List.getElem_mem hlt)
    obtain ⟨_, t2, t3, _⟩ := (hhF.typed H).1 rfl
    have t4 := ar_le H t2
    rw [w_add, show IntKind.i64.wrap (((q.2 : Nat) : Int) + 1) = ((q.2 + 1 : Nat) : Int) from wrap_k (by omega)]
    have hnl : ∀ j, Rt.nodesL ((ndS s q).1.kids.take j) ≤ 400 := fun j => by
      have h1 := Rt.nodesL_take_le (ndS s q).1.kids j
      cases hu : (ndS s q).1 with
      | mk a us => rw [hu] at hndq h1; simp only [Rt.nodes, Rt.kids] at hndq h1 ⊢; omega
    refine loop_up (nA s q) (fun j σ' h' => σ' = [I (q.2 + 1 + Rt.nodesL ((ndS s q).1.kids.take j) : Nat), I j] ∧ ∃ σ2, RC hb (conK s σ2 l) l h' ∧ KInv s R σ2 ∧ σ2.hd = σ.hd ∧ (∀ k p, p ∈ σ1.cm k → p ∈ σ2.cm k) ∧ ∀ i, i < j → i < nA s q → hh.2 + i < ar s hh.1 → argAt s q i ∈ σ2.cm (hh.1, hh.2 + i))
      ⟨by simp [Rt.nodesL], σ1, R1, I1, d1, fun _ _ h => h, fun i h0 => by omega⟩ (fun k σ' h' ⟨e, _⟩ => by rw [e]; rfl) ?_
    rintro j σ' h2 K2 hj ⟨rfl, σ2, R2, I2, d2, x2, f2⟩ hK2
    simp only [g_0, g_1]
    have hnlj := hnl j
    by_cases hlt2 : j < nA s q
    · have hlt2' : (j : Int) < (nA s q : Nat) := by omega
      have hjk : j < (ndS s q).1.kids.length := by omega
      simp only [w_lss, hlt2', decide_true, w_brA, if_true]
      refine ix_rs (by rw [tmCs_len]; exact hjk) (tmCs_get hjk) ?_
      rw [w_loadG_ro]
      refine ⟨by simp, ?_⟩
      simp only [tmC_0, tmC_1, tmC_2, tm_eta]
      have hkn : (ndS s q).1.kids[j].nodes ≤ 400 := by
        have h1 := Rt.nodesL_take_succ hjk
        have h2 := hnl (j + 1)
        omega
      have hpos := arg_pos hq hjk
      obtain ⟨hargo, _, _⟩ := hargs j hjk
      have eadd : IntKind.i64.wrap (((hh.2 : Nat) : Int) + (j : Nat)) = ((hh.2 + j : Nat) : Int) := by rw [wrap_i64 (by omega) (by omega)]; simp
      have nd : ∀ {h3 : Heap} {σ3 : KS}, RC hb (conK s σ3 l) l h3 → KInv s R σ3 → σ3.hd = σ.hd → (∀ k p, p ∈ σ1.cm k → p ∈ σ3.cm k) → (∀ i, i < j + 1 → i < nA s q → hh.2 + i < ar s hh.1 → argAt s q i ∈ σ3.cm (hh.1, hh.2 + i)) →
          callS prog n_vref02_Nodes [tm (ndS s q).1.kids[j], (I 400)] h3 fun r_54 h_55 =>
            binA .add (I (q.2 + 1 + Rt.nodesL ((ndS s q).1.kids.take j) : Nat)) r_54 fun x_56 =>
            binA .add (I (j : Nat)) (I 1) fun x_57 =>
            K2 [x_56, x_57] h_55 := fun {h3 σ3} R3 I3 d3 x3 f3 => by
        refine callS_of (vref02_Nodes_c _ (m := 400) (by omega) ?_)
        have e1 : min (ndS s q).1.kids[j].nodes (400 + 1) = (ndS s q).1.kids[j].nodes := by omega
        rw [e1, w_add, w_add, wrap_k (k := j) (by omega), wrap_i64 (by omega) (by omega)]
        refine hK2 hlt2 _ _ ⟨?_, σ3, R3, I3, d3, x3, f3⟩
        have := Rt.nodesL_take_succ hjk
        simp only [List.cons.injEq, AV.val.injEq, Value.int.injEq, true_and, and_true]
        omega
      rw [w_add, eadd, w_nil_op, w_fld_op, w_fld_op]
      refine ld (x := .rs 5 (fnCs s.funs)) (xa R2) (by omega) rfl ?_
      refine rd_srt' t2 ?_
      simp only [w_len_rs, srCs_len, w_lss]
      have earr : (srtOf s hh.1).kids.length = ar s hh.1 := rfl
      rw [earr]
      by_cases hc : hh.2 + j < ar s hh.1
      · have hc' : ((hh.2 + j : Nat) : Int) < (ar s hh.1 : Nat) := by omega
        simp only [hc', decide_true, w_brA, if_true]
        have hk : okK s (hh.1, hh.2 + j) := ⟨t2, hc⟩
        have hcl := I2.cm_le H Sm (hh.1, hh.2 + j)
        refine rd_cmK R2 rfl t2 ?_
        rw [w_add, eadd]
        refine rd_cmK R2 rfl t2 ?_
        rw [w_add, eadd]
        refine ix_cm (k := (hh.1, hh.2 + j)) R2 hk (ld_cm (k := (hh.1, hh.2 + j)) R2 hk ?_)
        rw [w_one_v, w_one_v]
        have hy : FlP s R true (hh.1, hh.2 + j) (argAt s q j) := .arg hq hr hhF hlt2 hc
        simp only [true_and]
        have := step_cm (k := (hh.1, hh.2 + j)) R2 hk (I2.cs _) (by omega) (argAt s q j) (P := l .pa) rfl (K := fun h_53 => callS prog n_vref02_Nodes [tm (ndS s q).1.kids[j], (I 400)] h_53 fun r_54 h_55 =>
            binA .add (I (q.2 + 1 + Rt.nodesL ((ndS s q).1.kids.take j) : Nat)) r_54 fun x_56 =>
            binA .add (I (j : Nat)) (I 1) fun x_57 =>
            K2 [x_56, x_57] h_55) fun h3 R3 => nd R3 (I2.setC hy) d2 (fun k p hp => ?_) fun i hi1 hi2 hi3 => ?_
        · rw [hpos] at this
          exact this
        · simp only [KS.setC]
          split
          · rename_i e; subst e
            rw [srtP_mem, insK_mem]; exact .inl (x2 _ p hp)
          · exact x2 k p hp
        · simp only [KS.setC]
          by_cases e : i = j
          · subst e; rw [if_pos rfl, srtP_mem, insK_mem]; exact .inr rfl
          · have e' : ¬ ((hh.1, hh.2 + i) : Pc) = (hh.1, hh.2 + j) := fun h => e (by have := congrArg Prod.snd h; simp at this; omega)
            rw [if_neg e']; exact f2 i (by omega) hi2 hi3
      · have hc' : ¬ ((hh.2 + j : Nat) : Int) < (ar s hh.1 : Nat) := by omega
        simp only [hc', decide_false, w_brA, Bool.false_eq_true, if_false]
        refine nd R2 I2 d2 x2 fun i hi1 hi2 hi3 => ?_
        by_cases e : i = j
        · subst e; exact absurd hi3 hc
        · exact f2 i (by omega) hi2 hi3
    · have hje : j = nA s q := by omega
      subst hje
      simp only [w_lss, Int.lt_irrefl, decide_false, w_brA, Bool.false_eq_true, if_false]
      rw [w_add, wrap_k (k := a) (by omega)]
      refine hK hlt _ _ ⟨rfl, σ2, R2, I2, d2, fun k p hp => x2 k p (x1 k p hp), fun b hb hba i hi1 hi2 => ?_⟩
      by_cases e : b = a
      · subst e
        rw [← hhh] at hi2 ⊢
        exact f2 i hi1 hi1 hi2
      · exact x2 _ _ (f1 b hb (by omega) i hi1 hi2)
  · have hae : a = (σ.hd q).length := by omega
    subst hae
    simp only [w_lss, Int.lt_irrefl, decide_false, w_brA, Bool.false_eq_true, if_false]
    refine retA_of (hQ σ1 h1 ⟨I1, d1, x1, fun h hh j hj hc => ?_⟩ R1)
    obtain ⟨b, hb2, e⟩ := List.mem_iff_getElem.1 hh
    have := f1 b hb2 hb2 j hj (by rw [e]; exact hc)
    rwa [e] at this
end
end Am
