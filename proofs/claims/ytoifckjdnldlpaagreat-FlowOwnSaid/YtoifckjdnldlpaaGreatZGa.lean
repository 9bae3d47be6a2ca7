/- The reference: pass; the state at the fixed point. -/
import Derived.Test.YtoifckjdnldlpaaGreatZFv
set_option linter.unusedVariables false
set_option linter.unusedSimpArgs false
namespace Am
open Go Go.Proofs.Tryz
theorem ndF_ix (t : Tm) : ∀ i q u l, (ndF i t)[q]? = some (u, l) → l = ixL (i + q + 1) u.kids := by
  refine Rt.ind (P := fun t => ∀ i q u l, (ndF i t)[q]? = some (u, l) → l = ixL (i + q + 1) u.kids) (fun a us ih => ?_) t
  intro i q u l h
  cases q with
  | zero =>
    simp only [ndF, List.getElem?_cons_zero, Option.some.injEq, Prod.mk.injEq] at h
    obtain ⟨rfl, rfl⟩ := h
    rfl
  | succ q =>
    simp only [ndF, List.getElem?_cons_succ] at h
    have hq : q < Rt.nodesL us := by
      have := (List.getElem?_eq_some_iff.1 h).1
      rwa [ndFL_len'] at this
    obtain ⟨m, hm, r, hr, e⟩ := nodesL_find hq
    rw [e, ndFL_get hm hr] at h
    have := ih us[m] (List.getElem_mem hm) _ _ _ _ h
    rw [this, e]
    congr 1
    omega
theorem arg_pos {s : Sch} {p : Pc} (hp : okP s p) {j : Nat} (hj : j < (ndS s p).1.kids.length) : argAt s p j = (p.1, p.2 + 1 + Rt.nodesL ((ndS s p).1.kids.take j)) := by
  have h := ndF_ix _ 0 p.2 (ndS s p).1 (ndS s p).2 (ndS_get hp)
  rw [argAt, h, List.getD_eq_getElem?_getD, ixL_get hj]
  simp
section
variable {s : Sch} {R : Nat → Prop} {σ : KS} {hb h : Heap} {l : Lo}
theorem step_cm (Rc : RC hb (conK s σ l) l h) {k : Pc} (hk : okK s k) (hs : Srtd (σ.cm k)) (hl : (σ.cm k).length ≤ 1000000) (p : Pc) {P : Nat} (hP : l .pa = P) {K : Heap → Prop}
    (hq : ∀ h', RC hb (conK s (σ.setC k (srtP (insK (σ.cm k) p))) l) l h' → K h') :
    callS prog n_vref19_addPlace [.rs 2 ((σ.cm k).map plC), .agg [I (p.1 : Nat), I (p.2 : Nat)]] h fun r_50 h_51 =>
      (loadV (.op P 0 4) h_51 fun x_60 => TV.av x_60 = TV.av (.rs 1 (CR s l))) ∧
      (idxA 1 (.rs 1 (CR s l)) (I (k.1 : Nat)) h_51 fun p_59 => TV.av p_59 = TV.av (.ro [.os (l (.tmp k.1)) (ar s k.1)])) ∧
      (loadV (.ro [.os (l (.tmp k.1)) (ar s k.1)]) h_51 fun x_58 => TV.av x_58 = TV.av (.os (l (.tmp k.1)) (ar s k.1))) ∧
      idxA 1 (.os (l (.tmp k.1)) (ar s k.1)) (I (k.2 : Nat)) h_51 fun p_52 => oneA r_50 <| storeG p_52 [r_50] h_51 K := by
  have xa : h P = some (.arr 5 [[.rs 2 (syCs s.syms), .rs 5 (fnCs s.funs), .rs 1 (NR s), .rs 1 (HR s l), .rs 1 (CR s l)]]) := by rw [← hP]; exact Rc.own .pa _ rfl
  have xr : h (l (.tmp k.1)) = some (.arr 1 ((List.range (ar s k.1)).map fun i => [.rs 2 ((σ.cm (k.1, i)).map plC)])) := Rc.own (.tmp k.1) _ (by simp only [conK, hk.1, if_true])
  have h2 : k.2 < ar s k.1 := hk.2
  refine callS_of (vref19_addPlace_c hs hl p ?_)
  refine ⟨ld xa (by omega) rfl rfl, ix_rs (by rw [CR_len]; exact hk.1) (CR_get hk.1) rfl, by rw [w_loadV_ro], ix_cm Rc hk ?_⟩
  rw [w_one_rs, w_store xr]
  have egd : ((List.range (ar s k.1)).map fun i => [AV.rs 2 ((σ.cm (k.1, i)).map plC)]).getD k.2 [] = [.rs 2 ((σ.cm k).map plC)] := by
    simp [List.getD_eq_getElem?_getD, h2]
  rw [egd]
  refine ⟨by simpa using h2, by simp, ?_⟩
  have R2 := Rc.upd (a := .tmp k.1) (.arr 1 (((List.range (ar s k.1)).map fun i => [AV.rs 2 ((σ.cm (k.1, i)).map plC)]).set k.2 [.rs 2 ((srtP (insK (σ.cm k) p)).map plC)])) (m := .arr 1 ((List.range (ar s k.1)).map fun i => [.rs 2 ((σ.cm (k.1, i)).map plC)])) (by simp only [conK, hk.1, if_true])
  refine hq _ (R2.weak fun a n ha => ?_)
  cases a with
  | tmp f =>
    by_cases e : f = k.1
    · subst e
      have : ((List.range (ar s k.1)).map fun i => [AV.rs 2 (((σ.setC k (srtP (insK (σ.cm k) p))).cm (k.1, i)).map plC)]) = ((List.range (ar s k.1)).map fun i => [AV.rs 2 ((σ.cm (k.1, i)).map plC)]).set k.2 [.rs 2 ((srtP (insK (σ.cm k) p)).map plC)] := by
        refine List.ext_getElem (by simp) fun j h1 h2 => ?_
        simp only [List.getElem_set, List.getElem_map, List.getElem_range]
        by_cases e : k.2 = j
        · subst e; rw [if_pos rfl]; simp [KS.setC]
        · have e' : ¬ ((k.1, j) : Pc) = k := fun h => e (congrArg Prod.snd h).symm
          rw [if_neg e]; simp only [KS.setC, if_neg e']
      simp only [conK, hk.1, if_true, this] at ha
      simpa [Con.set] using ha
    · have : ((List.range (ar s f)).map fun i => [AV.rs 2 (((σ.setC k (srtP (insK (σ.cm k) p))).cm (f, i)).map plC)]) = (List.range (ar s f)).map fun i => [AV.rs 2 ((σ.cm (f, i)).map plC)] := List.map_congr_left fun i _ => by
        have e' : ¬ ((f, i) : Pc) = k := fun h => e (congrArg Prod.fst h)
        simp only [KS.setC, if_neg e']
      simp only [conK, this] at ha
      rw [Con.set_ne (by simpa using e)]
      exact ha
  | _ =>
    rw [Con.set_ne (by simp)]
    exact ha
structure Pass (s : Sch) (R : Nat → Prop) (σ : KS) (q : Pc) (σ' : KS) : Prop where
  inv : KInv s R σ'
  hd : σ'.hd = σ.hd
  ext : ∀ k p, p ∈ σ.cm k → p ∈ σ'.cm k
  arg : ∀ h, h ∈ σ.hd q → ∀ j, j < nA s q → h.2 + j < ar s h.1 → argAt s q j ∈ σ'.cm (h.1, h.2 + j)
theorem vref19_pass_c (H : SOk s) (Sm : Small s) (I0 : KInv s R σ) (Rc : RC hb (conK s σ l) l h) {q : Pc} (hq : okP s q) (hr : R q.1) {Q : AV → Heap → Prop}
    (hQ : ∀ σ' h', Pass s R σ q σ' → RC hb (conK s σ' l) l h' → Q (.tup []) h') : ACalls prog n_vref19_state_pass [.op (l .pa) 0 0, I (q.1 : Nat), I (q.2 : Nat)] h Q := by
  refine vref19_state_pass_call ?_
  unfold vref19_state_pass
  have xa : ∀ {σ : KS} {h : Heap}, RC hb (conK s σ l) l h → h (l .pa) = some (.arr 5 [[.rs 2 (syCs s.syms), .rs 5 (fnCs s.funs), .rs 1 (NR s), .rs 1 (HR s l), .rs 1 (CR s l)]]) := fun {σ h} Rc => Rc.own .pa _ rfl
  have hna := nA_le H hq
  obtain ⟨hnk, hargs⟩ := nd_args hq
  have hndq := nd_nodes _ _ _ (List.mem_of_getElem? (ndS_get hq))
  have hbody := H.body (getD_mem hq.1)
  have hq2 : q.2 < nN s q.1 := hq.2
  have hnN := nN_le H hq.1
  refine rdK (x := .rs 1 (NR s)) (xa Rc) (by omega) rfl ?_
  refine ix_rs (by rw [NR_len]; exact hq.1) (NR_get hq.1) ?_
  rw [w_loadV_ro]
  refine ix_rs (by rw [tmCs_len, pre_len]; exact hq.2) (pre_lab hq) ?_
  rw [w_loadG_ro]
  refine ⟨by simp, ?_⟩
  simp only [tmC_2, w_len_rs, tmCs_len, ← hnk]
  refine rd_hd Rc rfl hq.1 (ix_hd Rc hq (ld_hd Rc hq (len_hV ?_)))
  have hhl := I0.hd_le H q
  refine loop_up (σ.hd q).length (fun a σ' h' => σ' = [I a] ∧ ∃ σ1, RC hb (conK s σ1 l) l h' ∧ KInv s R σ1 ∧ σ1.hd = σ.hd ∧ (∀ k p, p ∈ σ.cm k → p ∈ σ1.cm k) ∧
      ∀ b (hb : b < (σ.hd q).length), b < a → ∀ j, j < nA s q → (σ.hd q)[b].2 + j < ar s (σ.hd q)[b].1 → argAt s q j ∈ σ1.cm ((σ.hd q)[b].1, (σ.hd q)[b].2 + j)) ⟨rfl, σ, Rc, I0, rfl, fun _ _ h => h, fun b _ h0 => by omega⟩ (fun k σ' h' ⟨e, _⟩ => by rw [e]; rfl) ?_
  rintro a σ' h1 K ha ⟨rfl, σ1, R1, I1, d1, x1, f1⟩ hK
  simp only [g_0]
  by_cases hlt : a < (σ.hd q).length
  · have hlt' : (a : Int) < (σ.hd q).length := by omega
    simp only [w_lss, hlt', decide_true, w_brA, if_true]
    have hne : σ.hd q ≠ [] := fun e => by rw [e] at hlt; simp at hlt
    have hxv : hV σ l q = .os (l (.hm q)) (σ.hd q).length := by rw [hV, if_neg hne]
    have hxn : h1 (l (.hm q)) = some (.arr 2 ((σ.hd q).map plC)) := by
      rw [← d1]
      exact R1.own (.hm q) _ (by simp only [conK]; rw [if_pos ⟨hq.1, hq.2, by rw [d1]; exact hne⟩])
    rw [hxv, w_idx_os hxn]
    refine ⟨rfl, by omega, hlt', by simp, ?_⟩
    rw [Int.toNat_natCast, w_loadG_op hxn, plC_get hlt]
    refine ⟨by simpa using hlt, by omega, ?_⟩
    simp only [List.drop_zero, g_0, g_1]
    obtain ⟨hh, hhh⟩ : ∃ hh, hh = (σ.hd q)[a] := ⟨_, rfl⟩
    rw [← hhh]
    have hhF : FlP s R false q hh := I0.sh q hh (hhh ▸ List.getElem_mem hlt)
    obtain ⟨_, t2, t3, _⟩ := (hhF.typed H).1 rfl
    have t4 := ar_le H t2
    rw [w_add, show IntKind.i64.wrap (((q.2 : Nat) : Int) + 1) = ((q.2 + 1 : Nat) : Int) from wrap_k (by omega)]
    have hnl : ∀ j, Rt.nodesL ((ndS s q).1.kids.take j) ≤ 400 := fun j => by
      have h1 := Rt.nodesL_take_le (ndS s q).1.kids j
      cases hu : (ndS s q).1 with
      | mk a us => rw [hu] at hndq h1; simp only [Rt.nodes, Rt.kids] at hndq h1 ⊢; omega
    refine loop_up (nA s q) (fun j σ' h' => σ' = [I (q.2 + 1 + Rt.nodesL ((ndS s q).1.kids.take j) : Nat), I j] ∧ ∃ σ2, RC hb (conK s σ2 l) l h' ∧ KInv s R σ2 ∧ σ2.hd = σ.hd ∧ (∀ k p, p ∈ σ1.cm k → p ∈ σ2.cm k) ∧ ∀ i, i < j → i < nA s q → hh.2 + i < ar s hh.1 → argAt s q i ∈ σ2.cm (hh.1, hh.2 + i))
      ⟨by simp [Rt.nodesL], σ1, R1, I1, d1, fun _ _ h => h, fun i h0 => by omega⟩ (fun k σ' h' ⟨e, _⟩ => by rw [e]; rfl) ?_
    rintro j σ' h2 K2 hj ⟨rfl, σ2, R2, I2, d2, x2, f2⟩ hK2
    simp only [g_0, g_1]
    have hnlj := hnl j
    by_cases hlt2 : j < nA s q
    · have hlt2' : (j : Int) < (nA s q : Nat) := by omega
      have hjk : j < (ndS s q).1.kids.length := by omega
      simp only [w_lss, hlt2', decide_true, w_brA, if_true]
      refine ix_rs (by rw [tmCs_len]; exact hjk) (tmCs_get hjk) ?_
      rw [w_loadG_ro]
      refine ⟨by simp, ?_⟩
      simp only [tmC_0, tmC_1, tmC_2, tm_eta]
      have hkn : (ndS s q).1.kids[j].nodes ≤ 400 := by
        have h1 := Rt.nodesL_take_succ hjk
        have h2 := hnl (j + 1)
        omega
      have hpos := arg_pos hq hjk
      obtain ⟨hargo, _, _⟩ := hargs j hjk
      have eadd : IntKind.i64.wrap (((hh.2 : Nat) : Int) + (j : Nat)) = ((hh.2 + j : Nat) : Int) := by rw [wrap_i64 (by omega) (by omega)]; simp
      have nd : ∀ {h3 : Heap} {σ3 : KS}, RC hb (conK s σ3 l) l h3 → KInv s R σ3 → σ3.hd = σ.hd → (∀ k p, p ∈ σ1.cm k → p ∈ σ3.cm k) → (∀ i, i < j + 1 → i < nA s q → hh.2 + i < ar s hh.1 → argAt s q i ∈ σ3.cm (hh.1, hh.2 + i)) →
          callS prog n_vref02_Nodes [tm (ndS s q).1.kids[j], (I 400)] h3 fun r_54 h_55 =>
            binA .add (I (q.2 + 1 + Rt.nodesL ((ndS s q).1.kids.take j) : Nat)) r_54 fun x_56 =>
            binA .add (I (j : Nat)) (I 1) fun x_57 =>
            K2 [x_56, x_57] h_55 := fun {h3 σ3} R3 I3 d3 x3 f3 => by
        refine callS_of (vref02_Nodes_c _ (m := 400) (by omega) ?_)
        have e1 : min (ndS s q).1.kids[j].nodes (400 + 1) = (ndS s q).1.kids[j].nodes := by omega
        rw [e1, w_add, w_add, wrap_k (k := j) (by omega), wrap_i64 (by omega) (by omega)]
        refine hK2 hlt2 _ _ ⟨?_, σ3, R3, I3, d3, x3, f3⟩
        have := Rt.nodesL_take_succ hjk
        simp only [List.cons.injEq, AV.val.injEq, Value.int.injEq, true_and, and_true]
        omega
      rw [w_add, eadd, w_nil_op, w_fld_op, w_fld_op]
      refine ld (x := .rs 5 (fnCs s.funs)) (xa R2) (by omega) rfl ?_
      refine rd_srt' t2 ?_
      simp only [w_len_rs, srCs_len, w_lss]
      have earr : (srtOf s hh.1).kids.length = ar s hh.1 := rfl
      rw [earr]
      by_cases hc : hh.2 + j < ar s hh.1
      · have hc' : ((hh.2 + j : Nat) : Int) < (ar s hh.1 : Nat) := by omega
        simp only [hc', decide_true, w_brA, if_true]
        have hk : okK s (hh.1, hh.2 + j) := ⟨t2, hc⟩
        have hcl := I2.cm_le H Sm (hh.1, hh.2 + j)
        refine rd_cmK R2 rfl t2 ?_
        rw [w_add, eadd]
        refine rd_cmK R2 rfl t2 ?_
        rw [w_add, eadd]
        refine ix_cm (k := (hh.1, hh.2 + j)) R2 hk (ld_cm (k := (hh.1, hh.2 + j)) R2 hk ?_)
        rw [w_one_v, w_one_v]
        have hy : FlP s R true (hh.1, hh.2 + j) (argAt s q j) := .arg hq hr hhF hlt2 hc
        simp only [true_and]
        have := step_cm (k := (hh.1, hh.2 + j)) R2 hk (I2.cs _) (by omega) (argAt s q j) (P := l .pa) rfl (K := fun h_53 => callS prog n_vref02_Nodes [tm (ndS s q).1.kids[j], (I 400)] h_53 fun r_54 h_55 =>
            binA .add (I (q.2 + 1 + Rt.nodesL ((ndS s q).1.kids.take j) : Nat)) r_54 fun x_56 =>
            binA .add (I (j : Nat)) (I 1) fun x_57 =>
            K2 [x_56, x_57] h_55) fun h3 R3 => nd R3 (I2.setC hy) d2 (fun k p hp => ?_) fun i hi1 hi2 hi3 => ?_
        · rw [hpos] at this
          exact this
        · simp only [KS.setC]
          split
          · rename_i e; subst e
            rw [srtP_mem, insK_mem]; exact .inl (x2 _ p hp)
          · exact x2 k p hp
        · simp only [KS.setC]
          by_cases e : i = j
          · subst e; rw [if_pos rfl, srtP_mem, insK_mem]; exact .inr rfl
          · have e' : ¬ ((hh.1, hh.2 + i) : Pc) = (hh.1, hh.2 + j) := fun h => e (by have := congrArg Prod.snd h; simp at this; omega)
            rw [if_neg e']; exact f2 i (by omega) hi2 hi3
      · have hc' : ¬ ((hh.2 + j : Nat) : Int) < (ar s hh.1 : Nat) := by omega
        simp only [hc', decide_false, w_brA, Bool.false_eq_true, if_false]
        refine nd R2 I2 d2 x2 fun i hi1 hi2 hi3 => ?_
        by_cases e : i = j
        · subst e; exact absurd hi3 hc
        · exact f2 i (by omega) hi2 hi3
    · have hje : j = nA s q := by omega
      subst hje
      simp only [w_lss, Int.lt_irrefl, decide_false, w_brA, Bool.false_eq_true, if_false]
      rw [w_add, wrap_k (k := a) (by omega)]
      refine hK hlt _ _ ⟨rfl, σ2, R2, I2, d2, fun k p hp => x2 k p (x1 k p hp), fun b hb hba i hi1 hi2 => ?_⟩
      by_cases e : b = a
      · subst e
        rw [← hhh] at hi2 ⊢
        exact f2 i hi1 hi1 hi2
      · exact x2 _ _ (f1 b hb (by omega) i hi1 hi2)
  · have hae : a = (σ.hd q).length := by omega
    subst hae
    simp only [w_lss, Int.lt_irrefl, decide_false, w_brA, Bool.false_eq_true, if_false]
    refine retA_of (hQ σ1 h1 ⟨I1, d1, x1, fun h hh j hj hc => ?_⟩ R1)
    obtain ⟨b, hb2, e⟩ := List.mem_iff_getElem.1 hh
    have := f1 b hb2 hb2 j hj (by rw [e]; exact hc)
    rwa [e] at this
end
end Am
set_option linter.unusedVariables false
set_option linter.unusedSimpArgs false
namespace Am
open Go Go.Proofs.Tryz
structure GrowK (σ σ' : KS) : Prop where
  hd : ∀ p h, h ∈ σ.hd p → h ∈ σ'.hd p
  cm : ∀ k p, p ∈ σ.cm k → p ∈ σ'.cm k
theorem GrowK.refl (σ : KS) : GrowK σ σ := ⟨fun _ _ h => h, fun _ _ h => h⟩
theorem GrowK.trans {a b c : KS} (h1 : GrowK a b) (h2 : GrowK b c) : GrowK a c := ⟨fun p h hh => h2.hd p h (h1.hd p h hh), fun k p hp => h2.cm k p (h1.cm k p hp)⟩
structure Proc (s : Sch) (R : Nat → Prop) (σ0 σ : KS) (q : Pc) : Prop where
  fn : ∀ g : Nat, labP s q = (1, (g : Int)) → (g, 0) ∈ σ.hd q
  var : ∀ i : Nat, labP s q = (0, (i : Int)) → ∀ p, p ∈ σ0.cm (q.1, i) → ∀ h, h ∈ σ0.hd p → (h.1, h.2 + nA s p) ∈ σ.hd q
  arg : R q.1 → ∀ h, h ∈ σ0.hd q → ∀ j, j < nA s q → h.2 + j < ar s h.1 → argAt s q j ∈ σ.cm (h.1, h.2 + j)
theorem Proc.mono {s : Sch} {R : Nat → Prop} {σ0 σ σ' : KS} {q : Pc} (h : Proc s R σ0 σ q) (g : GrowK σ σ') : Proc s R σ0 σ' q :=
  ⟨fun i hi => g.hd _ _ (h.fn i hi), fun i hi p hp hh hhh => g.hd _ _ (h.var i hi p hp hh hhh), fun hr hh hhh j hj hc => g.cm _ _ (h.arg hr hh hhh j hj hc)⟩
theorem same_of {l l' : List Pc} (hn : l.Nodup) (hs : ∀ x, x ∈ l → x ∈ l') (hl : l'.length ≤ l.length) : ∀ x, x ∈ l' → x ∈ l := fun x hx => by
  by_cases h : x ∈ l
  · exact h
  · have : (x :: l).length ≤ l'.length := List.Nodup.length_le_of_subset (List.nodup_cons.2 ⟨h, hn⟩) fun y hy => by
      rcases List.mem_cons.1 hy with rfl | hy
      · exact hx
      · exact hs y hy
    simp at this; omega
section
variable {s : Sch} {R : Nat → Prop} {σ σ0 : KS} {hb h : Heap} {l : Lo} {c : Con}
theorem sz_mono (I0 : KInv s R σ0) (I1 : KInv s R σ) (g : GrowK σ0 σ) : szK s σ0 ≤ szK s σ :=
  sumN_mono fun f _ => Nat.add_le_add (sumN_mono fun i _ => List.Nodup.length_le_of_subset (I0.hn _) fun x hx => g.hd _ x hx) (sumN_mono fun i _ => List.Nodup.length_le_of_subset (I0.cs _).2 fun x hx => g.cm _ x hx)
theorem sz_same (I0 : KInv s R σ0) (I1 : KInv s R σ) (g : GrowK σ0 σ) (he : szK s σ0 = szK s σ) : (∀ p, okP s p → ∀ x, x ∈ σ.hd p → x ∈ σ0.hd p) ∧ ∀ k, okK s k → ∀ x, x ∈ σ.cm k → x ∈ σ0.cm k := by
  have h1 : ∀ f, f < s.funs.length → szH s σ0 f ≤ szH s σ f := fun f _ => sumN_mono fun i _ => List.Nodup.length_le_of_subset (I0.hn _) fun x hx => g.hd _ x hx
  have h2 : ∀ f, f < s.funs.length → szC s σ0 f ≤ szC s σ f := fun f _ => sumN_mono fun i _ => List.Nodup.length_le_of_subset (I0.cs _).2 fun x hx => g.cm _ x hx
  have h3 := sumN_eq (n := s.funs.length) (f := fun f => szH s σ0 f + szC s σ0 f) (g := fun f => szH s σ f + szC s σ f) (fun f hf => Nat.add_le_add (h1 f hf) (h2 f hf)) he
  refine ⟨fun p hp => ?_, fun k hk => ?_⟩
  · have h4 := h3 p.1 hp.1
    have h5 := h1 p.1 hp.1
    have h6 := h2 p.1 hp.1
    have h7 := sumN_eq (n := nN s p.1) (f := fun i => (σ0.hd (p.1, i)).length) (g := fun i => (σ.hd (p.1, i)).length) (fun i _ => List.Nodup.length_le_of_subset (I0.hn _) fun x hx => g.hd _ x hx) (by show szH s σ0 p.1 = szH s σ p.1; omega) p.2 hp.2
    have h8 : (σ0.hd p).length = (σ.hd p).length := h7
    exact same_of (I0.hn p) (g.hd p) (by omega)
  · have h4 := h3 k.1 hk.1
    have h5 := h1 k.1 hk.1
    have h6 := h2 k.1 hk.1
    have h7 := sumN_eq (n := ar s k.1) (f := fun i => (σ0.cm (k.1, i)).length) (g := fun i => (σ.cm (k.1, i)).length) (fun i _ => List.Nodup.length_le_of_subset (I0.cs _).2 fun x hx => g.cm _ x hx) (by show szC s σ0 k.1 = szC s σ k.1; omega) k.2 hk.2
    have h8 : (σ0.cm k).length = (σ.cm k).length := h7
    exact same_of (I0.cs k).2 (g.cm k) (by omega)
theorem closed_all (H : SOk s) (hs : (∀ p, okP s p → ∀ x, x ∈ σ.hd p → x ∈ σ0.hd p) ∧ ∀ k, okK s k → ∀ x, x ∈ σ.cm k → x ∈ σ0.cm k) (hp : ∀ q, okP s q → Proc s R σ0 σ q) {b : Bool} {x y : Pc} (h : FlP s R b x y) : (b = true → y ∈ σ0.cm x) ∧ (b = false → y ∈ σ0.hd x) := by
  induction h with
  | @fn p g hp1 hl => exact ⟨fun h => (by cases h), fun _ => hs.1 p hp1 _ ((hp p hp1).fn g hl)⟩
  | @var q p h i hq hl hc hh ihc ihh => exact ⟨fun h => (by cases h), fun _ => hs.1 q hq _ ((hp q hq).var i hl p (ihc.1 rfl) h (ihh.2 rfl))⟩
  | @arg p h j hp1 hr hh hj ha ih => exact ⟨fun _ => hs.2 (h.1, h.2 + j) ⟨((hh.typed H).1 rfl).2.1, ha⟩ _ ((hp p hp1).arg hr h (ih.2 rfl) j hj ha), fun h => (by cases h)⟩
theorem grow5 (Rc : RC hb c l h) {a : Ad} {n f : Nat} {cs : List AV} {els : List (List AV)} {x y : AV} {P : Nat} (hP : l .pa = P) (ha : a ≠ .pa) (hc : c .pa = some (.arr 5 [cs])) (hx : x = if f = 0 then .e0 else .os (l a) f) (hel : els.length = f) (hca : f ≠ 0 → c a = some (.arr 1 els)) (hn : n < 5) (hf : f ≤ 1000000) {K : Heap → Prop}
    (hk : ∀ i h', RC hb ((c.set a (.arr 1 (els ++ [[y]]))).set .pa (.arr 5 [cs.set n (.os i (f + 1))])) (l.set a i) h' → K h') :
    appA 1 24 x (.rs 1 [[y]]) h fun x' h' => nilA (.op P 0 0) <| fldA n (.op P 0 0) fun q => oneA x' <| storeG q [x'] h' K := by
  refine Rc.app1 a (els := els) ?_ (by omega) fun i h' R1 => ?_
  · by_cases e : f = 0
    · exact .inl ⟨by rw [hx, if_pos e], List.eq_nil_of_length_eq_zero (by omega)⟩
    · exact .inr ⟨f, els, by rw [hx, if_neg e], hca e, by omega, by rw [List.take_of_length_le (by omega)]⟩
  · have xa : h' P = some (.arr 5 [cs]) := by
      have := R1.own .pa (.arr 5 [cs]) (by rw [Con.set_ne (Ne.symm ha)]; exact hc)
      rwa [Lo.set_ne (Ne.symm ha), hP] at this
    rw [w_nil_op, w_fld_op, w_one_os, Nat.zero_add, hel]
    refine st_at xa hn ?_
    have R2 := R1.upd (a := .pa) (.arr 5 [cs.set n (.os i (f + 1))]) (m := .arr 5 [cs]) (by rw [Con.set_ne (Ne.symm ha)]; exact hc)
    rw [Lo.set_ne (Ne.symm ha), hP] at R2
    exact hk i _ R2
theorem RC.ref1 (Rc : RC hb c l h) {a : Ad} {sz : Nat} {els els' : List (List AV)} (ha : c a = some (.arr sz els)) (hl : els'.length = els.length) (hz : ∀ i, i < els.length → (els'.getD i []).length = sz) (hr : ∀ z, ∀ i j, i < els.length → j < sz → Ref h z (g (els.getD i []) j) (g (els'.getD i []) j)) :
    HRef h (h.set (l a) (.arr sz els')) ∧ RC hb (c.set a (.arr sz els')) l (h.set (l a) (.arr sz els')) := by
  refine ⟨fun i n hi => ?_, Rc.upd _ ha⟩
  by_cases e : i = l a
  · subst e
    rw [Heap.set_same] at hi
    cases hi
    exact ⟨_, Rc.own a _ ha, .arr hl hz (hr _)⟩
  · rw [Heap.set_ne e] at hi
    exact ⟨n, hi, .refl⟩
end
end Am
set_option linter.unusedVariables false
set_option linter.unusedSimpArgs false
namespace Am
open Go Go.Proofs.Tryz
def kPa (s : Sch) (a b c : AV) : List AV := [.rs 2 (syCs s.syms), .rs 5 (fnCs s.funs), a, b, c]
def oN (i f : Nat) : AV := if f = 0 then .e0 else .os i f
def con5 (s : Sch) (f : Nat) (l : Lo) : Con
  | .pa => some (.arr 5 [kPa s (oN (l .nb) f) (oN (l .mh) f) (oN (l .cb) f)])
  | .nb => if f = 0 then none else some (.arr 1 ((NR s).take f))
  | .mh => if f = 0 then none else some (.arr 1 ((HR s l).take f))
  | .cb => if f = 0 then none else some (.arr 1 ((CR s l).take f))
  | .cs f' => if f' < f then some (.arr 1 (List.replicate (nN s f') [.e0])) else none
  | .tmp f' => if f' < f then some (.arr 1 (List.replicate (ar s f') [.rs 2 []])) else none
  | _ => none
theorem NR_take {s : Sch} {f : Nat} (hf : f < s.funs.length) : (NR s).take (f + 1) = (NR s).take f ++ [[.rs 3 (tmCs (preT_ (s.funs.getD f default).body))]] := by
  rw [List.take_succ_eq_append_getElem (by rw [NR_len]; exact hf)]
  have := NR_get hf
  rw [List.getD_eq_getElem?_getD, List.getElem?_eq_getElem (by rw [NR_len]; exact hf)] at this
  simp only [Option.getD_some] at this
  rw [this]
theorem HR_take1 {s : Sch} (l : Lo) {f : Nat} (hf : f < s.funs.length) : (HR s l).take (f + 1) = (HR s l).take f ++ [[.os (l (.cs f)) (nN s f)]] := by
  rw [List.take_succ_eq_append_getElem (by rw [HR_len]; exact hf)]
  have := HR_get (l := l) hf
  rw [List.getD_eq_getElem?_getD, List.getElem?_eq_getElem (by rw [HR_len]; exact hf)] at this
  simp only [Option.getD_some] at this
  rw [this]
theorem CR_take1 {s : Sch} (l : Lo) {f : Nat} (hf : f < s.funs.length) : (CR s l).take (f + 1) = (CR s l).take f ++ [[.os (l (.tmp f)) (ar s f)]] := by
  rw [List.take_succ_eq_append_getElem (by rw [CR_len]; exact hf)]
  have := CR_get (l := l) hf
  rw [List.getD_eq_getElem?_getD, List.getElem?_eq_getElem (by rw [CR_len]; exact hf)] at this
  simp only [Option.getD_some] at this
  rw [this]
theorem mem_take_range {n f i : Nat} (h : i ∈ (List.range n).take f) : i < f := by
  obtain ⟨j, hj, e⟩ := List.mem_take_iff_getElem.1 h
  simp at e; omega
theorem HR_take {s : Sch} {l l' : Lo} {f : Nat} (h : ∀ f', f' < f → l' (.cs f') = l (.cs f')) : (HR s l').take f = (HR s l).take f := by
  simp only [HR, ← List.map_take]
  exact List.map_congr_left fun f' hf => by rw [h f' (mem_take_range hf)]
theorem CR_take {s : Sch} {l l' : Lo} {f : Nat} (h : ∀ f', f' < f → l' (.tmp f') = l (.tmp f')) : (CR s l').take f = (CR s l).take f := by
  simp only [CR, ← List.map_take]
  exact List.map_congr_left fun f' hf => by rw [h f' (mem_take_range hf)]
section
variable {hb h : Heap} {s : Sch} {l : Lo}
theorem round5 (H : SOk s) {f P : Nat} (R : RC hb (con5 s f l) l h) (hP : l .pa = P) (hf : f < s.funs.length) {K : List AV → Heap → Prop}
    (hK : ∀ l' h' h'', l' .pa = P → HRef h' h'' → RC hb (con5 s (f + 1) l') l' h'' → K [I ((f + 1 : Nat) : Int)] h') :
    (idxA 5 (.rs 5 (fnCs s.funs)) (I (f : Nat)) h fun p_9 =>
     loadG 5 p_9 h fun c_10 =>
     callS prog n_vref19_Nodes [(.agg [(g c_10 2), (g c_10 3), (g c_10 4)]), .e0] h fun r_11 h_12 =>
     nilA (.op P 0 0) <|
     fldA 2 (.op P 0 0) fun p_13 =>
     loadV p_13 h_12 fun x_14 =>
     oneA r_11 <|
     appA 1 24 x_14 (.rs 1 [[r_11]]) h_12 fun x_15 h_16 =>
     nilA (.op P 0 0) <|
     fldA 2 (.op P 0 0) fun p_17 =>
     oneA x_15 <|
     storeG p_17 [x_15] h_16 fun h_18 =>
     nilA (.op P 0 0) <|
     fldA 3 (.op P 0 0) fun p_19 =>
     loadV p_19 h_18 fun x_20 =>
     lenA r_11 fun x_21 =>
     mkA 1 24 [.e0] x_21 x_21 h_18 fun x_22 h_23 =>
    (loadV p_19 h_23 fun x_39 =>
     TV.av x_39 = TV.av x_20) ∧
    (oneA x_22 <|
     appA 1 24 x_20 (.rs 1 [[x_22]]) h_23 fun x_24 h_25 =>
     nilA (.op P 0 0) <|
     fldA 3 (.op P 0 0) fun p_26 =>
     oneA x_24 <|
     storeG p_26 [x_24] h_25 fun h_27 =>
     nilA (.op P 0 0) <|
     fldA 4 (.op P 0 0) fun p_28 =>
     loadV p_28 h_27 fun x_29 =>
     lenA (g c_10 1) fun x_30 =>
     mkA 1 24 [.e0] x_30 x_30 h_27 fun x_31 h_32 =>
    (loadV p_28 h_32 fun x_38 =>
     TV.av x_38 = TV.av x_29) ∧
    (oneA x_31 <|
     appA 1 24 x_29 (.rs 1 [[x_31]]) h_32 fun x_33 h_34 =>
     nilA (.op P 0 0) <|
     fldA 4 (.op P 0 0) fun p_35 =>
     oneA x_33 <|
     storeG p_35 [x_33] h_34 fun h_36 =>
     binA .add (I (f : Nat)) (I 1) fun x_37 =>
     K [x_37] h_36))) := by
  have hfe : s.funs.getD f default = s.funs[f] := by simp [List.getD_eq_getElem?_getD, hf]
  have hfew := H.few
  have hn4 := nN_le H hf
  have ha8 := ar_le H hf
  refine ix_rs (by rw [fnCs_len]; exact hf) (fn_get hf) ?_
  rw [w_loadG_ro]
  refine ⟨by simp [fnC], ?_⟩
  simp only [fnC, List.drop_zero, g_0, g_1, g_2, g_3, g_4, tm_eta, srC_eq]
  refine callS_of (vref19_Nodes_f _ (by have h1 : (s.funs.getD f default).body.nodes ≤ 400 := hn4; omega) ?_)
  have xa : h P = some (.arr 5 [kPa s (oN (l .nb) f) (oN (l .mh) f) (oN (l .cb) f)]) := by rw [← hP]; exact R.own .pa _ rfl
  refine rdK (x := oN (l .nb) f) xa (by omega) rfl ?_
  rw [w_one_rs]
  have lN : ((NR s).take f).length = f := by rw [List.length_take, NR_len]; omega
  have lH : ((HR s l).take f).length = f := by rw [List.length_take, HR_len]; omega
  have lC : ((CR s l).take f).length = f := by rw [List.length_take, CR_len]; omega
  have hle : (tmCs (preT_ (s.funs.getD f default).body)).length = nN s f := by rw [tmCs_len, pre_len]; rfl
  refine grow5 R (a := .nb) (f := f) (els := (NR s).take f) hP (by simp) rfl rfl lN (fun e => by simp only [con5, if_neg e]) (by omega) (by omega) fun i1 h1 R1 => ?_
  rw [← NR_take hf] at R1
  have ep1 : (kPa s (oN (l .nb) f) (oN (l .mh) f) (oN (l .cb) f)).set 2 (.os i1 (f + 1)) = kPa s (.os i1 (f + 1)) (oN (l .mh) f) (oN (l .cb) f) := rfl
  rw [ep1] at R1
  have xa1 : h1 P = some (.arr 5 [kPa s (.os i1 (f + 1)) (oN (l .mh) f) (oN (l .cb) f)]) := by
    have := R1.own .pa _ (Con.set_same _ _ _)
    rwa [Lo.set_ne (by simp), hP] at this
  refine rdK (x := oN (l .mh) f) xa1 (by omega) rfl ?_
  rw [w_len_rs, hle]
  refine ⟨rfl, by omega, by omega, fun i2 hi2 => ?_⟩
  rw [Int.toNat_natCast]
  have R2 := R1.mk' (.cs f) (.arr 1 (List.replicate (nN s f) [.e0])) hi2
  have xa2 : (h1.set i2 (.arr 1 (List.replicate (nN s f) [.e0]))) P = some (.arr 5 [kPa s (.os i1 (f + 1)) (oN (l .mh) f) (oN (l .cb) f)]) := by
    rw [Heap.set_ne]; exact xa1
    rintro e; rw [e, hi2] at xa1; cases xa1
  refine ⟨ld xa2 (by omega) rfl rfl, ?_⟩
  rw [w_one_os]
  refine grow5 R2 (a := .mh) (f := f) (els := (HR s l).take f) (P := P) (by rw [Lo.set_ne (by simp), Lo.set_ne (by simp), hP]) (by simp) (by rw [Con.set_ne (by simp), Con.set_same]) (by rw [Lo.set_ne (by simp), Lo.set_ne (by simp)]; rfl) lH (fun e => by rw [Con.set_ne (by simp), Con.set_ne (by simp), Con.set_ne (by simp)]; simp only [con5, if_neg e]) (by omega) (by omega) fun i3 h3 R3 => ?_
  have ep3 : (kPa s (.os i1 (f + 1)) (oN (l .mh) f) (oN (l .cb) f)).set 3 (.os i3 (f + 1)) = kPa s (.os i1 (f + 1)) (.os i3 (f + 1)) (oN (l .cb) f) := rfl
  rw [ep3] at R3
  have xa3 : h3 P = some (.arr 5 [kPa s (.os i1 (f + 1)) (.os i3 (f + 1)) (oN (l .cb) f)]) := by
    have := R3.own .pa _ (Con.set_same _ _ _)
    rwa [Lo.set_ne (by simp), Lo.set_ne (by simp), Lo.set_ne (by simp), hP] at this
  refine rdK (x := oN (l .cb) f) xa3 (by omega) rfl ?_
  have earr : (srCs (Rt.kids (s.funs.getD f default).sort)).length = ar s f := by rw [srCs_len]; rfl
  rw [w_len_rs, earr]
  refine ⟨rfl, by omega, by omega, fun i4 hi4 => ?_⟩
  rw [Int.toNat_natCast]
  have R4 := R3.mk' (.tmp f) (.arr 1 (List.replicate (ar s f) [.e0])) hi4
  have xa4 : (h3.set i4 (.arr 1 (List.replicate (ar s f) [.e0]))) P = some (.arr 5 [kPa s (.os i1 (f + 1)) (.os i3 (f + 1)) (oN (l .cb) f)]) := by
    rw [Heap.set_ne]; exact xa3
    rintro e; rw [e, hi4] at xa3; cases xa3
  refine ⟨ld xa4 (by omega) rfl rfl, ?_⟩
  rw [w_one_os]
  refine grow5 R4 (a := .cb) (f := f) (els := (CR s l).take f) (P := P) (by rw [Lo.set_ne (by simp), Lo.set_ne (by simp), Lo.set_ne (by simp), Lo.set_ne (by simp), hP]) (by simp) (by rw [Con.set_ne (by simp), Con.set_same]) (by rw [Lo.set_ne (by simp), Lo.set_ne (by simp), Lo.set_ne (by simp), Lo.set_ne (by simp)]; rfl) lC (fun e => by rw [Con.set_ne (by simp), Con.set_ne (by simp), Con.set_ne (by simp), Con.set_ne (by simp), Con.set_ne (by simp), Con.set_ne (by simp)]; simp only [con5, if_neg e]) (by omega) (by omega) fun i5 h5 R5 => ?_
  have ep5 : (kPa s (.os i1 (f + 1)) (.os i3 (f + 1)) (oN (l .cb) f)).set 4 (.os i5 (f + 1)) = kPa s (.os i1 (f + 1)) (.os i3 (f + 1)) (.os i5 (f + 1)) := rfl
  rw [ep5] at R5
  rw [w_add, wrap_k (k := f) (by omega)]
  obtain ⟨l5, hl5⟩ : ∃ l5, l5 = ((((l.set .nb i1).set (.cs f) i2).set .mh i3).set (.tmp f) i4).set .cb i5 := ⟨_, rfl⟩
  rw [← hl5] at R5
  have ln : ∀ a, a ≠ .nb → a ≠ .cs f → a ≠ .mh → a ≠ .tmp f → a ≠ .cb → l5 a = l a := fun a q1 q2 q3 q4 q5 => by
    rw [hl5, Lo.set_ne q5, Lo.set_ne q4, Lo.set_ne q3, Lo.set_ne q2, Lo.set_ne q1]
  have l1 : l5 .nb = i1 := by rw [hl5, Lo.set_ne (by simp), Lo.set_ne (by simp), Lo.set_ne (by simp), Lo.set_ne (by simp), Lo.set_same]
  have l2 : l5 (.cs f) = i2 := by rw [hl5, Lo.set_ne (by simp), Lo.set_ne (by simp), Lo.set_ne (by simp), Lo.set_same]
  have l3 : l5 .mh = i3 := by rw [hl5, Lo.set_ne (by simp), Lo.set_ne (by simp), Lo.set_same]
  have l4 : l5 (.tmp f) = i4 := by rw [hl5, Lo.set_ne (by simp), Lo.set_same]
  have l5' : l5 .cb = i5 := by rw [hl5, Lo.set_same]
  obtain ⟨r6, R6⟩ := R5.ref1 (a := .tmp f) (sz := 1) (els := List.replicate (ar s f) [.e0]) (els' := List.replicate (ar s f) [.rs 2 []]) (by rw [Con.set_ne (by simp), Con.set_ne (by simp), Con.set_same]) (by simp) (fun i hi => by
    have : i < ar s f := by simpa using hi
    simp [List.getD_eq_getElem?_getD, this]) fun z i j hi hj => by
    have h1 : i < ar s f := by simpa using hi
    have h2 : j = 0 := by omega
    subst h2
    have e1 : g ((List.replicate (ar s f) [AV.e0]).getD i []) 0 = .e0 := by simp [List.getD_eq_getElem?_getD, h1]
    have e2 : g ((List.replicate (ar s f) [AV.rs 2 []]).getD i []) 0 = .rs 2 [] := by simp [List.getD_eq_getElem?_getD, h1]
    rw [e1, e2]; exact .e0
  refine hK l5 _ _ (by rw [ln _ (by simp) (by simp) (by simp) (by simp) (by simp), hP]) r6 (R6.weak fun a n ha => ?_)
  have hH : (HR s l5).take (f + 1) = (HR s l).take f ++ [[.os i2 (nN s f)]] := by
    rw [HR_take1 l5 hf, l2, HR_take fun f' hf' => ln _ (by simp) (by simp; omega) (by simp) (by simp) (by simp)]
  have hC : (CR s l5).take (f + 1) = (CR s l).take f ++ [[.os i4 (ar s f)]] := by
    rw [CR_take1 l5 hf, l4, CR_take fun f' hf' => ln _ (by simp) (by simp) (by simp) (by simp; omega) (by simp)]
  have hf1 : ¬ f + 1 = 0 := by omega
  cases a with
  | pa =>
    simp only [con5, oN, hf1, if_false, l1, l3, l5'] at ha
    simpa [Con.set] using ha
  | nb => simpa [con5, Con.set] using ha
  | mh =>
    simp only [con5, hf1, if_false, hH] at ha
    simpa [Con.set] using ha
  | cb =>
    simp only [con5, hf1, if_false, hC] at ha
    simpa [Con.set] using ha
  | cs f' =>
    by_cases e : f' = f
    · subst e
      simpa [con5, Con.set] using ha
    · have : f' < f + 1 ↔ f' < f := by omega
      simp only [con5, this] at ha
      simpa [Con.set, con5, e] using ha
  | tmp f' =>
    by_cases e : f' = f
    · subst e
      simpa [con5, Con.set] using ha
    · have : f' < f + 1 ↔ f' < f := by omega
      simp only [con5, this] at ha
      simpa [Con.set, con5, e] using ha
  | _ => simp [con5] at ha
end
end Am
set_option linter.unusedVariables false
set_option linter.unusedSimpArgs false
namespace Am
open Go Go.Proofs.Tryz
structure KRes (s : Sch) (bl : List Bool) (σ : KS) : Prop where
  inv : KInv s (Rb bl) σ
  hd : ∀ p h, FlP s (Rb bl) false p h → h ∈ σ.hd p
  cm : ∀ k p, FlP s (Rb bl) true k p → p ∈ σ.cm k
section
variable {hb h : Heap} {s : Sch} {l : Lo} {bl : List Bool}
theorem look' {R : Nat → Prop} {σ : KS} (H : SOk s) (Sm : Small s) (I0 : KInv s R σ) (Rc : RC hb (conK s σ l) l h) {P : Nat} (hP : l .pa = P) {q : Pc} (hq : okP s q) {Q : AV → Heap → Prop}
    (hQ : ∀ σ' l' h', Look s R σ q σ' → l' .pa = P → RC hb (conK s σ' l') l' h' → Q (.tup []) h') : ACalls prog n_vref19_state_look [.op P 0 0, I (q.1 : Nat), I (q.2 : Nat)] h Q := by
  subst hP; exact vref19_look_c H Sm I0 Rc hq hQ
theorem pass' {R : Nat → Prop} {σ : KS} (H : SOk s) (Sm : Small s) (I0 : KInv s R σ) (Rc : RC hb (conK s σ l) l h) {P : Nat} (hP : l .pa = P) {q : Pc} (hq : okP s q) (hr : R q.1) {Q : AV → Heap → Prop}
    (hQ : ∀ σ' h', Pass s R σ q σ' → RC hb (conK s σ' l) l h' → Q (.tup []) h') : ACalls prog n_vref19_state_pass [.op P 0 0, I (q.1 : Nat), I (q.2 : Nat)] h Q := by
  subst hP; exact vref19_pass_c H Sm I0 Rc hq hr hQ
theorem size' {R : Nat → Prop} {σ : KS} (H : SOk s) (Sm : Small s) (I0 : KInv s R σ) (Rc : RC hb (conK s σ l) l h) {P : Nat} (hP : l .pa = P) {Q : AV → Heap → Prop} (hq : Q (I (szK s σ : Nat)) h) : ACalls prog n_vref19_state_size [.op P 0 0] h Q := by
  subst hP; exact vref19_size_c H Sm I0 Rc hq
theorem Look.grow {R : Nat → Prop} {σ σ' : KS} {q : Pc} (L : Look s R σ q σ') : GrowK σ σ' :=
  ⟨fun p h hh => by
    by_cases e : p = q
    · subst e; exact L.ext h hh
    · rw [L.oth p e]; exact hh, fun k p hp => by rw [L.cm]; exact hp⟩
theorem Pass.grow {R : Nat → Prop} {σ σ' : KS} {q : Pc} (L : Pass s R σ q σ') : GrowK σ σ' :=
  ⟨fun p h hh => by rw [L.hd]; exact hh, L.ext⟩
theorem Proc.of {R : Nat → Prop} {σ0 σ1 σ2 σ3 : KS} {q : Pc} (g : GrowK σ0 σ1) (L : Look s R σ1 q σ2) (g2 : GrowK σ2 σ3) (A : R q.1 → Pass s R σ2 q σ3) : Proc s R σ0 σ3 q :=
  ⟨fun f hf => g2.hd _ _ (L.fn f hf), fun i hi p hp hh hhh => g2.hd _ _ (L.var i hi p (g.cm _ _ hp) hh (g.hd _ _ hhh)), fun hr hh hhh j hj hc => (A hr).arg hh (L.ext hh (g.hd _ _ hhh)) j hj hc⟩
theorem pass_all (H : SOk s) (Sm : Small s) (hbl : IsR s bl) {σ0 : KS} (I0 : KInv s (Rb bl) σ0) (Rc : RC hb (conK s σ0 l) l h) {P : Nat} (hP : l .pa = P) {K : Heap → Prop}
    (hK : ∀ σ' l' h', l' .pa = P → RC hb (conK s σ' l') l' h' → KInv s (Rb bl) σ' → GrowK σ0 σ' → (∀ q, okP s q → Proc s (Rb bl) σ0 σ' q) → K h') :
     loopS (fun s_51 h_52 K_53 =>
     binA .lss (g s_51 0) (I (s.funs.length : Nat)) fun x_54 =>
     brA x_54 (nilA (.op P 0 0) <|
     fldA 2 (.op P 0 0) fun p_55 =>
     loadV p_55 h_52 fun x_56 =>
     idxA 1 x_56 (g s_51 0) h_52 fun p_57 =>
     loadV p_57 h_52 fun x_58 =>
     lenA x_58 fun x_59 =>
     loopS (fun s_60 h_61 K_62 =>
     binA .lss (g s_60 0) x_59 fun x_63 =>
     brA x_63 (callS prog n_vref19_state_look [(.op P 0 0), (g s_51 0), (g s_60 0)] h_61 fun r_64 h_65 =>
     idxA 1 (.rs 1 (bCs bl)) (g s_51 0) h_65 fun p_66 =>
     loadV p_66 h_65 fun x_67 =>
     brA x_67 (callS prog n_vref19_state_pass [(.op P 0 0), (g s_51 0), (g s_60 0)] h_65 fun r_68 h_69 =>
     binA .add (g s_60 0) (I 1) fun x_70 =>
     K_62 [x_70] h_69) (binA .add (g s_60 0) (I 1) fun x_71 =>
     K_62 [x_71] h_65)) (binA .add (g s_51 0) (I 1) fun x_72 =>
     K_53 [x_72] h_61)) [(I 0)] h_52) (K h_52)) [(I 0)] h := by
  have hfew := H.few
  let G : (Pc → Prop) → Heap → Prop := fun B h' => ∃ σ l, l .pa = P ∧ RC hb (conK s σ l) l h' ∧ KInv s (Rb bl) σ ∧ GrowK σ0 σ ∧ ∀ q, okP s q → B q → Proc s (Rb bl) σ0 σ q
  have GB : ∀ {B B' : Pc → Prop} {h' : Heap}, G B h' → (∀ q, okP s q → B' q → B q) → G B' h' := fun ⟨σ, l, a, b, c, d, e⟩ hh => ⟨σ, l, a, b, c, d, fun q hq hb => e q hq (hh q hq hb)⟩
  refine loop_up s.funs.length (fun f σ' h' => σ' = [I f] ∧ G (fun q => q.1 < f) h') ⟨rfl, σ0, l, hP, Rc, I0, GrowK.refl _, fun q _ h0 => by omega⟩ (fun k σ' h' ⟨e, _⟩ => by rw [e]; rfl) ?_
  rintro f σ' h1 K1 hf ⟨rfl, hG⟩ hK1
  simp only [g_0]
  by_cases hlt : f < s.funs.length
  · have hlt' : (f : Int) < s.funs.length := by omega
    have hn4 := nN_le H hlt
    simp only [w_lss, hlt', decide_true, w_brA, if_true]
    have rd : ∀ {K : AV → Prop}, K (.rs 3 (tmCs (preT_ (s.funs.getD f default).body))) → (nilA (.op P 0 0) <| fldA 2 (.op P 0 0) fun p_55 => loadV p_55 h1 fun x_56 => idxA 1 x_56 (I (f : Nat)) h1 fun p_57 => loadV p_57 h1 K) := fun {K} hk => by
      obtain ⟨σ, l1, e1, R1, _⟩ := hG
      have xa : h1 P = some (.arr 5 [[.rs 2 (syCs s.syms), .rs 5 (fnCs s.funs), .rs 1 (NR s), .rs 1 (HR s l1), .rs 1 (CR s l1)]]) := by rw [← e1]; exact R1.own .pa _ rfl
      refine rdK (x := .rs 1 (NR s)) xa (by omega) rfl ?_
      refine ix_rs (by rw [NR_len]; exact hlt) (NR_get hlt) ?_
      rw [w_loadV_ro]; exact hk
    refine rd ?_
    have hle : (tmCs (preT_ (s.funs.getD f default).body)).length = nN s f := by rw [tmCs_len, pre_len]; rfl
    rw [w_len_rs, hle]
    refine loop_up (nN s f) (fun i σ' h' => σ' = [I i] ∧ G (fun q => q.1 < f ∨ (q.1 = f ∧ q.2 < i)) h') ⟨rfl, GB hG fun q _ hb => by omega⟩ (fun k σ' h' ⟨e, _⟩ => by rw [e]; rfl) ?_
    rintro i σ' h2 K2 hi ⟨rfl, σ1, l1, e1, R1, I1, g1, p1⟩ hK2
    simp only [g_0]
    by_cases hlt2 : i < nN s f
    · have hlt2' : (i : Int) < (nN s f : Nat) := by omega
      simp only [w_lss, hlt2', decide_true, w_brA, if_true]
      have hq : okP s (f, i) := ⟨hlt, hlt2⟩
      refine callS_of (look' (q := (f, i)) H Sm I1 R1 e1 hq fun σ2 l2 h3 L e2 R2 => ?_)
      have hblf : f < bl.length := by rw [hbl.1]; exact hlt
      refine ix_rs (by rw [bCs_len]; exact hblf) (bCs_get hblf) ?_
      simp only [w_loadV_ro, g_0, w_brA, w_add, wrap_k (k := i) (show i ≤ 4611686018427387904 by omega)]
      have fin : ∀ {h4 : Heap} {σ3 : KS}, RC hb (conK s σ3 l2) l2 h4 → KInv s (Rb bl) σ3 → GrowK σ2 σ3 → (bl.getD f false = true → Pass s (Rb bl) σ2 (f, i) σ3) → K2 [I ((i + 1 : Nat) : Int)] h4 := fun {h4 σ3} R3 I3 g3 A => by
        refine hK2 hlt2 _ _ ⟨rfl, σ3, l2, e2, R3, I3, g1.trans (L.grow.trans g3), fun q hq hb => ?_⟩
        by_cases e : q = (f, i)
        · subst e; exact Proc.of g1 L g3 A
        · have : q.1 < f ∨ (q.1 = f ∧ q.2 < i) := by
            rcases hb with hb | ⟨hb1, hb2⟩
            · exact .inl hb
            · have : q.2 ≠ i := fun e2 => e (Prod.ext hb1 e2)
              exact .inr ⟨hb1, by omega⟩
          exact (p1 q hq this).mono (L.grow.trans g3)
      cases hbf : bl.getD f false with
      | true =>
        simp only [if_true]
        refine callS_of (pass' (q := (f, i)) H Sm L.inv R2 e2 hq hbf fun σ3 h4 A R3 => ?_)
        exact fin R3 A.inv A.grow fun _ => A
      | false =>
        simp only [Bool.false_eq_true, if_false]
        exact fin R2 L.inv (GrowK.refl _) fun h => by rw [hbf] at h; cases h
    · have hie : i = nN s f := by omega
      subst hie
      simp only [w_lss, Int.lt_irrefl, decide_false, w_brA, Bool.false_eq_true, if_false]
      rw [w_add, wrap_k (k := f) (by omega)]
      refine hK1 hlt _ _ ⟨rfl, GB ⟨σ1, l1, e1, R1, I1, g1, p1⟩ fun q hq hb => ?_⟩
      by_cases e : q.1 < f
      · exact .inl e
      · have e2 : q.1 = f := by omega
        exact .inr ⟨e2, by have := hq.2; unfold nN; rw [← e2]; exact this⟩
  · have hfe : f = s.funs.length := by omega
    subst hfe
    simp only [w_lss, Int.lt_irrefl, decide_false, w_brA, Bool.false_eq_true, if_false]
    obtain ⟨σ1, l1, e1, R1, I1, g1, p1⟩ := hG
    exact hK σ1 l1 h1 e1 R1 I1 g1 fun q hq => p1 q hq hq.1
theorem vref19_known_c (H : SOk s) (Sm : Small s) {Q : AV → Heap → Prop}
    (hQ : ∀ bl σ l' h', IsR s bl → KRes s bl σ → RC h (conK s σ l') l' h' → Q (.op (l' .pa) 0 0) h') : ACalls prog n_vref19_known [sm s] h Q := by
  have hfew := H.few
  have hpos := H.pos
  refine vref19_known_call ?_
  unfold vref19_known sm
  simp only [w_agg, List.length_cons, List.length_nil, true_and, g_0, g_1, w_len_rs, fnCs_len]
  intro P hPn
  have R0 : RC h (con5 s 0 (Lo.set (fun _ => 0) .pa P)) (Lo.set (fun _ => 0) .pa P) (h.set P (.arr 5 [kPa s .e0 .e0 .e0])) := ((RC.start (hb := h)).mk' .pa (.arr 5 [kPa s .e0 .e0 .e0]) hPn).weak fun a n ha => by
    cases a with
    | pa => simpa [con5, oN, Con.set] using ha
    | _ => simp [con5] at ha
  refine loop_upW s.funs.length (fun f σ' h' => σ' = [I f] ∧ ∃ l, l .pa = P ∧ RC h (con5 s f l) l h') (Wk.refl ⟨rfl, _, Lo.set_same _ _ _, R0⟩) (fun k σ' h' ⟨e, _⟩ => by rw [e]; rfl) ?_
  rintro f σ' h1 K hf ⟨rfl, l, eP, R⟩ hK
  simp only [g_0]
  by_cases hlt : f < s.funs.length
  · have hlt' : (f : Int) < s.funs.length := by omega
    simp only [w_lss, hlt', decide_true, w_brA, if_true]
    exact round5 H R eP hlt fun l2 h2 h3 e r R2 => hK hlt _ _ (Wk.none r ⟨rfl, l2, e, R2⟩)
  have hfe : f = s.funs.length := by omega
  subst hfe
  simp only [w_lss, Int.lt_irrefl, decide_false, w_brA, Bool.false_eq_true, if_false]
  have hf0 : ¬ s.funs.length = 0 := by omega
  clear hK R0
  have one : ∀ (x : List AV) (i : Nat), i < [x].length → ([x].getD i []).length = x.length := fun x i hi => by
    have : i = 0 := by simpa using hi
    subst this; rfl
  obtain ⟨h2, r2, R2⟩ := R.frzEl (a := .nb) (b := .pa) (n := 0) (j := 2) (sz := 1) (zb := 5) (len := s.funs.length) (els := NR s) (elsb := [kPa s (.os (l .nb) s.funs.length) (.os (l .mh) s.funs.length) (.os (l .cb) s.funs.length)])
    (by simp only [con5, hf0, if_false]; rw [List.take_of_length_le (by rw [NR_len]; omega)]) (by simp only [con5, oN, hf0, if_false]) (by simp) (by simp) (by omega) (one _) rfl NR_len (fun i hi => by rw [NR_get (by rwa [NR_len] at hi)]; rfl)
  have q2 : ([kPa s (.os (l .nb) s.funs.length) (.os (l .mh) s.funs.length) (.os (l .cb) s.funs.length)].set 0 (([kPa s (.os (l .nb) s.funs.length) (.os (l .mh) s.funs.length) (.os (l .cb) s.funs.length)].getD 0 []).set 2 (.rs 1 (NR s)))) = [kPa s (.rs 1 (NR s)) (.os (l .mh) s.funs.length) (.os (l .cb) s.funs.length)] := rfl
  rw [q2] at R2
  obtain ⟨h3, r3, R3⟩ := R2.frzEl (a := .mh) (b := .pa) (n := 0) (j := 3) (sz := 1) (zb := 5) (len := s.funs.length) (els := HR s l) (elsb := [kPa s (.rs 1 (NR s)) (.os (l .mh) s.funs.length) (.os (l .cb) s.funs.length)])
    (by simp only [Con.set, Con.del, con5, hf0, if_false]; simp; rw [List.take_of_length_le (by rw [HR_len]; omega)]) (by simp [Con.set]) (by simp) (by simp) (by omega) (one _) rfl HR_len (fun i hi => by rw [HR_get (by rwa [HR_len] at hi)]; rfl)
  have q3 : ([kPa s (.rs 1 (NR s)) (.os (l .mh) s.funs.length) (.os (l .cb) s.funs.length)].set 0 (([kPa s (.rs 1 (NR s)) (.os (l .mh) s.funs.length) (.os (l .cb) s.funs.length)].getD 0 []).set 3 (.rs 1 (HR s l)))) = [kPa s (.rs 1 (NR s)) (.rs 1 (HR s l)) (.os (l .cb) s.funs.length)] := rfl
  rw [q3] at R3
  obtain ⟨h4, r4, R4⟩ := R3.frzEl (a := .cb) (b := .pa) (n := 0) (j := 4) (sz := 1) (zb := 5) (len := s.funs.length) (els := CR s l) (elsb := [kPa s (.rs 1 (NR s)) (.rs 1 (HR s l)) (.os (l .cb) s.funs.length)])
    (by simp only [Con.set, Con.del, con5, hf0, if_false]; simp; rw [List.take_of_length_le (by rw [CR_len]; omega)]) (by simp [Con.set]) (by simp) (by simp) (by omega) (one _) rfl CR_len (fun i hi => by rw [CR_get (by rwa [CR_len] at hi)]; rfl)
  have q4 : ([kPa s (.rs 1 (NR s)) (.rs 1 (HR s l)) (.os (l .cb) s.funs.length)].set 0 (([kPa s (.rs 1 (NR s)) (.rs 1 (HR s l)) (.os (l .cb) s.funs.length)].getD 0 []).set 4 (.rs 1 (CR s l)))) = [kPa s (.rs 1 (NR s)) (.rs 1 (HR s l)) (.rs 1 (CR s l))] := rfl
  rw [q4] at R4
  have R5 : RC h (conK s ⟨fun _ => [], fun _ => []⟩ l) l h4 := R4.weak fun a n ha => by
    cases a with
    | pa =>
      simp only [conK] at ha
      simpa [Con.set, kPa] using ha
    | cs f =>
      by_cases e : f < s.funs.length
      · simp only [conK, hV, e, if_true] at ha
        simpa [Con.set, Con.del, con5, e, List.map_const'] using ha
      · simp [conK, e] at ha
    | tmp f =>
      by_cases e : f < s.funs.length
      · simp only [conK, e, if_true] at ha
        simpa [Con.set, Con.del, con5, e, List.map_const'] using ha
      · simp [conK, e] at ha
    | _ => simp [conK] at ha
  refine callS_wk (Refs.refl _) (HRef.trans r2 (HRef.trans r3 r4)) ?_
  rw [sm_eta]
  refine vref19_Reach_c s H fun bl hbl => ?_
  clear R R2 R3 R4 r2 r3 r4 q2 q3 q4
  have I0 : KInv s (Rb bl) ⟨fun _ => [], fun _ => []⟩ := ⟨fun p h hh => by simp at hh, fun p h hh => by simp at hh, fun _ => by simp, fun _ => ⟨by simp, by simp⟩⟩
  refine loop_down (fun m σ' h' => ∃ σ l n, σ' = [I n] ∧ l .pa = P ∧ RC h (conK s σ l) l h' ∧ KInv s (Rb bl) σ ∧ ((n = -1 ∧ m = 64 * (400 * 576 + 8 * 150) + 1) ∨ ∃ σ0, n = (szK s σ0 : Nat) ∧ KInv s (Rb bl) σ0 ∧ GrowK σ0 σ ∧ (∀ q, okP s q → Proc s (Rb bl) σ0 σ q) ∧ m = 64 * (400 * 576 + 8 * 150) - szK s σ0))
    (64 * (400 * 576 + 8 * 150) + 1) ⟨_, l, -1, rfl, eP, R5, I0, .inl ⟨rfl, rfl⟩⟩ ?_
  clear R5 I0 eP
  rintro m σ' h5 K ⟨σ, l, n, rfl, eP, R, I1, hor⟩ hK
  simp only [g_0]
  refine callS_of (size' H Sm I1 R eP ?_)
  rw [w_neq, w_brA]
  by_cases hne : n = (szK s σ : Nat)
  · simp only [hne, decide_true, Bool.not_true, Bool.false_eq_true, if_false]
    rcases hor with ⟨rfl, _⟩ | ⟨σ0, e0, I0, g0, pr, _⟩
    · omega
    · have he : szK s σ0 = szK s σ := by omega
      have hs := sz_same I0 I1 g0 he
      rw [← eP]
      refine retA_of (hQ bl σ l h5 hbl ⟨I1, fun p y hy => ?_, fun k y hy => ?_⟩ R)
      · exact g0.hd _ _ ((closed_all H hs pr hy).2 rfl)
      · exact g0.cm _ _ ((closed_all H hs pr hy).1 rfl)
  · simp only [hne, decide_false, Bool.not_false, if_true]
    refine callS_of (size' H Sm I1 R eP ?_)
    refine pass_all H Sm hbl I1 R eP fun σ2 l2 h6 e2 R2 I2 g2 p2 => ?_
    have hB := szK_le H Sm I1
    refine hK (64 * (400 * 576 + 8 * 150) - szK s σ) _ _ ?_ ⟨σ2, l2, _, rfl, e2, R2, I2, .inr ⟨σ, rfl, I1, g2, p2, rfl⟩⟩
    rcases hor with ⟨_, rfl⟩ | ⟨σ0, e0, I0, g0, _, rfl⟩
    · omega
    · have := sz_mono I0 I1 g0
      omega
end
end Am
