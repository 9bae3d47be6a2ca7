/- analyse: the nodes and the maps are made. -/
import Derived.Test.YtoifckjdnldlpaaGreatZFh
set_option linter.unusedVariables false
set_option linter.unusedSimpArgs false
namespace Am
open Go Go.Proofs.Tryz
def pa1 (s : Sch) (bl : List Bool) (xn xc : AV) (l : Lo) : List AV := [.rs 2 (syCs s.syms), .rs 5 (fnCs s.funs), xn, xc, .mp (l .mh), .mp (l .mw), .mp (l .mi), .rs 1 (bCs bl), .e0, I 0]
def con1 (s : Sch) (bl : List Bool) (f : Nat) (l : Lo) : Con
  | .pa => some (.arr 10 [pa1 s bl (if f = 0 then .e0 else .os (l .nb) f) (if f = 0 then .e0 else .os (l .cb) f) l])
  | .mh => some (.map [])
  | .mw => some (.map [])
  | .mi => some (.map [])
  | .nb => if f = 0 then none else some (.arr 1 ((NS s).take f))
  | .cb => if f = 0 then none else some (.arr 1 ((CSl s l).take f))
  | .cm k => if okK s k ∧ k.1 < f then some (.map []) else none
  | _ => none
def con2 (s : Sch) (bl : List Bool) (f i : Nat) (l : Lo) : Con
  | .pa => some (.arr 10 [pa1 s bl (.os (l .nb) (f + 1)) (.os (l .cb) (f + 1)) l])
  | .mh => some (.map [])
  | .mw => some (.map [])
  | .mi => some (.map [])
  | .nb => some (.arr 1 ((NS s).take (f + 1)))
  | .cb => some (.arr 1 ((CSl s l).take f ++ [[.os (l (.cs f)) (ar s f)]]))
  | .cs f' => if f' = f then some (.arr 1 ((List.range (ar s f)).map fun i' => if i' < i then [.mp (l (.cm (f, i')))] else [.val (.map none)])) else none
  | .cm k => if okK s k ∧ (k.1 < f ∨ (k.1 = f ∧ k.2 < i)) then some (.map []) else none
  | _ => none
theorem CSl_take {s : Sch} {l l' : Lo} {f : Nat} (h : ∀ f' i, f' < f → l' (.cm (f', i)) = l (.cm (f', i))) : (CSl s l').take f = (CSl s l).take f := by
  simp only [CSl, ← List.map_take]
  refine List.map_congr_left fun f' hf => ?_
  have : f' < f := by
    have := List.mem_take_iff_getElem.1 hf
    obtain ⟨i, hi, e⟩ := this
    simp at e; omega
  simp [h f' _ this]
section
variable {hb h : Heap} {s : Sch} {bl : List Bool} {l : Lo}
theorem fn_get {f : Nat} (hf : f < s.funs.length) : (fnCs s.funs).getD f [] = fnC (s.funs.getD f default) := by
  rw [fnCs_get hf]; simp [List.getD_eq_getElem?_getD, hf]
theorem NS_take {f : Nat} (hf : f < s.funs.length) : (NS s).take (f + 1) = (NS s).take f ++ [[.rs 2 (ndCs (ndF 0 (s.funs.getD f default).body))]] := by
  rw [List.take_succ_eq_append_getElem (by rw [NS_len]; exact hf)]
  have := NS_get hf
  rw [List.getD_eq_getElem?_getD, List.getElem?_eq_getElem (by rw [NS_len]; exact hf)] at this
  simp only [Option.getD_some] at this
  rw [this]
theorem CSl_take1 (l : Lo) {f : Nat} (hf : f < s.funs.length) : (CSl s l).take (f + 1) = (CSl s l).take f ++ [[.rs 1 ((List.range (ar s f)).map fun i => [.mp (l (.cm (f, i)))])]] := by
  rw [List.take_succ_eq_append_getElem (by rw [CSl_len]; exact hf)]
  have := CSl_get l hf
  rw [List.getD_eq_getElem?_getD, List.getElem?_eq_getElem (by rw [CSl_len]; exact hf)] at this
  simp only [Option.getD_some] at this
  rw [this]
theorem round1 (H : SOk s) {f : Nat} (R : RC hb (con1 s bl f l) l h) (hf : f < s.funs.length) {K : List AV → Heap → Prop}
    (hK : ∀ l' h' h'', l' .pa = l .pa → HRef h' h'' → RC hb (con1 s bl (f + 1) l') l' h'' → K [I ((f + 1 : Nat) : Int)] h') :
    (nilA (.op (l .pa) 0 0) <|
     fldA 2 (.op (l .pa) 0 0) fun p_17 =>
     loadV p_17 h fun x_18 =>
     idxA 5 (.rs 5 (fnCs s.funs)) (I (f : Nat)) h fun p_19 =>
     fldA 2 p_19 fun p_20 =>
     callS prog n_flow_nodes [p_20] h fun r_21 h_22 =>
    (loadV p_17 h_22 fun x_60 =>
     TV.av x_60 = TV.av x_18) ∧
    (oneA r_21 <|
     appA 1 24 x_18 (.rs 1 [[r_21]]) h_22 fun x_23 h_24 =>
     nilA (.op (l .pa) 0 0) <|
     fldA 2 (.op (l .pa) 0 0) fun p_25 =>
     oneA x_23 <|
     storeG p_25 [x_23] h_24 fun h_26 =>
     nilA (.op (l .pa) 0 0) <|
     fldA 3 (.op (l .pa) 0 0) fun p_27 =>
     loadV p_27 h_26 fun x_28 =>
     idxA 5 (.rs 5 (fnCs s.funs)) (I (f : Nat)) h_26 fun p_29 =>
     fldA 1 p_29 fun p_30 =>
     fldA 0 p_30 fun p_31 =>
     loadV p_31 h_26 fun x_32 =>
     lenA x_32 fun x_33 =>
     mkA 1 8 [(.val (.map none))] x_33 x_33 h_26 fun x_34 h_35 =>
    (loadV p_27 h_35 fun x_59 =>
     TV.av x_59 = TV.av x_28) ∧
    (oneA x_34 <|
     appA 1 24 x_28 (.rs 1 [[x_34]]) h_35 fun x_36 h_37 =>
     nilA (.op (l .pa) 0 0) <|
     fldA 3 (.op (l .pa) 0 0) fun p_38 =>
     oneA x_36 <|
     storeG p_38 [x_36] h_37 fun h_39 =>
     nilA (.op (l .pa) 0 0) <|
     fldA 3 (.op (l .pa) 0 0) fun p_40 =>
     loadV p_40 h_39 fun x_41 =>
     idxA 1 x_41 (I (f : Nat)) h_39 fun p_42 =>
     loadV p_42 h_39 fun x_43 =>
     lenA x_43 fun x_44 =>
     loopS (fun s_45 h_46 K_47 =>
     binA .lss (g s_45 0) x_44 fun x_48 =>
     brA x_48 (nilA (.op (l .pa) 0 0) <|
     fldA 3 (.op (l .pa) 0 0) fun p_49 =>
     loadV p_49 h_46 fun x_50 =>
     idxA 1 x_50 (I (f : Nat)) h_46 fun p_51 =>
     loadV p_51 h_46 fun x_52 =>
     newM h_46 fun m_53 h_54 =>
     idxA 1 x_52 (g s_45 0) h_54 fun p_55 =>
     oneA m_53 <|
     storeG p_55 [m_53] h_54 fun h_56 =>
     binA .add (g s_45 0) (I 1) fun x_57 =>
     K_47 [x_57] h_56) (binA .add (I (f : Nat)) (I 1) fun x_58 =>
     K [x_58] h_46)) [(I 0)] h_39))) := by
  have hfe : s.funs.getD f default = s.funs[f] := by simp [List.getD_eq_getElem?_getD, hf]
  have hbody := H.body (List.getElem_mem hf)
  have hfew := H.few
  have xa : h (l .pa) = some (.arr 10 [pa1 s bl (if f = 0 then .e0 else .os (l .nb) f) (if f = 0 then .e0 else .os (l .cb) f) l]) := R.own .pa _ rfl
  refine rdP xa (by omega) rfl ?_
  refine ix_rs (by rw [fnCs_len]; exact hf) (fn_get hf) ?_
  rw [fnC, w_fld_ro, List.drop_succ_cons, List.drop_succ_cons, List.drop_zero]
  refine callS_of ?_
  rw [← tmC_eq]
  refine flow_nodes_c _ (by rw [hfe]; omega) ?_
  refine ⟨ld xa (by omega) rfl rfl, ?_⟩
  rw [w_one_rs]
  refine R.app1 .nb (els := (NS s).take f) ?_ (by rw [List.length_take, NS_len]; omega) fun i1 h1 R1 => ?_
  · by_cases e : f = 0
    · subst e; exact .inl ⟨rfl, by simp⟩
    · refine .inr ⟨f, (NS s).take f, by simp [pa1, e], by simp [con1, e], by rw [List.length_take, NS_len]; omega, by rw [List.take_take, Nat.min_self]⟩
  have elen : ((NS s).take f).length + 1 = f + 1 := by rw [List.length_take, NS_len]; omega
  rw [elen] at *
  rw [← NS_take hf] at R1
  have l1n : ∀ a, a ≠ .nb → (l.set .nb i1) a = l a := fun a ha => Lo.set_ne ha
  have xa : h1 (l .pa) = some (.arr 10 [pa1 s bl (if f = 0 then .e0 else .os (l .nb) f) (if f = 0 then .e0 else .os (l .cb) f) l]) := by
    have := R1.own .pa _ (by rw [Con.set_ne (by simp)]; rfl)
    rwa [l1n _ (by simp)] at this
  rw [w_nil_op, w_fld_op, w_one_os, Nat.zero_add]
  refine st_at xa (by omega) ?_
  have R2 := R1.upd (a := .pa) (.arr 10 [pa1 s bl (.os i1 (f + 1)) (if f = 0 then .e0 else .os (l .cb) f) l]) (by rw [Con.set_ne (by simp)]; rfl)
  rw [l1n _ (by simp)] at R2
  have est : (pa1 s bl (if f = 0 then .e0 else .os (l .nb) f) (if f = 0 then .e0 else .os (l .cb) f) l).set 2 (.os i1 (f + 1)) = pa1 s bl (.os i1 (f + 1)) (if f = 0 then .e0 else .os (l .cb) f) l := rfl
  rw [est]
  generalize h1.set (l .pa) (.arr 10 [pa1 s bl (.os i1 (f + 1)) (if f = 0 then .e0 else .os (l .cb) f) l]) = h2 at *
  have xa : h2 (l .pa) = some (.arr 10 [pa1 s bl (.os i1 (f + 1)) (if f = 0 then .e0 else .os (l .cb) f) l]) := by
    have := R2.own .pa _ (Con.set_same _ _ _)
    rwa [l1n _ (by simp)] at this
  refine rdP xa (by omega) rfl ?_
  refine ix_rs (by rw [fnCs_len]; exact hf) (fn_get hf) ?_
  rw [fnC, w_fld_ro, List.drop_succ_cons, List.drop_zero, w_fld_ro, List.drop_zero, w_loadV_ro, srC_eq, w_len_rs, srCs_len]
  have har : ar s f ≤ 1000000 := by
    have h1 := H.srt (List.getElem_mem hf)
    rw [okS_iff] at h1
    have h2 := h1.1
    have h3 : (s.funs[f]).sort.kids.length ≤ (s.funs[f]).sort.nodes := by
      have := Rt.length_le (s.funs[f]).sort.kids
      cases hs : (s.funs[f]).sort with
      | mk a us => rw [hs] at this; simp only [Rt.kids, Rt.nodes] at this ⊢; omega
    unfold ar; rw [hfe]; omega
  show mkA 1 8 [.val (.map none)] (I (ar s f : Nat)) (I (ar s f : Nat)) h2 _
  refine ⟨rfl, by omega, by omega, fun i2 hi2 => ?_⟩
  rw [Int.toNat_natCast]
  have R3 := R2.mk' (.cs f) (.arr 1 (List.replicate (ar s f) [.val (.map none)])) hi2
  have xa' : (h2.set i2 (.arr 1 (List.replicate (ar s f) [.val (.map none)]))) (l .pa) = some (.arr 10 [pa1 s bl (.os i1 (f + 1)) (if f = 0 then .e0 else .os (l .cb) f) l]) := by
    rw [Heap.set_ne]; exact xa
    rintro e; rw [e, hi2] at xa; cases xa
  refine ⟨ld xa' (by omega) rfl rfl, ?_⟩
  rw [w_one_os]
  generalize h2.set i2 (.arr 1 (List.replicate (ar s f) [.val (.map none)])) = h3 at *
  clear xa R R1 R2
  refine R3.app1 .cb (els := (CSl s l).take f) ?_ (by rw [List.length_take, CSl_len]; omega) fun i3 h4 R4 => ?_
  · by_cases e : f = 0
    · subst e; exact .inl ⟨rfl, by simp⟩
    · refine .inr ⟨f, (CSl s l).take f, by simp [pa1, e, Lo.set], by simp [con1, e, Con.set], by rw [List.length_take, CSl_len]; omega, by rw [List.take_take, Nat.min_self]⟩
  have elen2 : ((CSl s l).take f).length + 1 = f + 1 := by rw [List.length_take, CSl_len]; omega
  rw [elen2]
  obtain ⟨l4, hl4⟩ : ∃ l4, l4 = ((l.set .nb i1).set (.cs f) i2).set .cb i3 := ⟨_, rfl⟩
  rw [← hl4] at R4
  have l4n : ∀ a, a ≠ .nb → a ≠ .cs f → a ≠ .cb → l4 a = l a := fun a h1 h2 h3 => by rw [hl4, Lo.set_ne h3, Lo.set_ne h2, Lo.set_ne h1]
  have l4b : l4 .nb = i1 := by rw [hl4, Lo.set_ne (by simp), Lo.set_ne (by simp), Lo.set_same]
  have l4s : l4 (.cs f) = i2 := by rw [hl4, Lo.set_ne (by simp), Lo.set_same]
  have l4c : l4 .cb = i3 := by rw [hl4, Lo.set_same]
  have xa : h4 (l .pa) = some (.arr 10 [pa1 s bl (.os i1 (f + 1)) (if f = 0 then .e0 else .os (l .cb) f) l]) := by
    have := R4.own .pa (.arr 10 [pa1 s bl (.os i1 (f + 1)) (if f = 0 then .e0 else .os (l .cb) f) l]) (by simp [Con.set])
    rwa [l4n _ (by simp) (by simp) (by simp)] at this
  rw [w_nil_op, w_fld_op, w_one_os, Nat.zero_add]
  refine st_at xa (by omega) ?_
  have R5 := R4.upd (a := .pa) (.arr 10 [pa1 s bl (.os i1 (f + 1)) (.os i3 (f + 1)) l]) (m := .arr 10 [pa1 s bl (.os i1 (f + 1)) (if f = 0 then .e0 else .os (l .cb) f) l]) (by simp [Con.set])
  rw [l4n _ (by simp) (by simp) (by simp)] at R5
  have est2 : (pa1 s bl (.os i1 (f + 1)) (if f = 0 then .e0 else .os (l .cb) f) l).set 3 (.os i3 (f + 1)) = pa1 s bl (.os i1 (f + 1)) (.os i3 (f + 1)) l := rfl
  rw [est2]
  generalize h4.set (l .pa) (.arr 10 [pa1 s bl (.os i1 (f + 1)) (.os i3 (f + 1)) l]) = h5 at *
  have ecs : ∀ l' : Lo, (∀ f' i, f' < f → l' (.cm (f', i)) = l (.cm (f', i))) → (CSl s l').take f = (CSl s l).take f := fun l' h => CSl_take h
  have R6 : RC hb (con2 s bl f 0 l4) l4 h5 := R5.weak fun a n ha => by
    cases a with
    | pa =>
      have : pa1 s bl (.os (l4 .nb) (f + 1)) (.os (l4 .cb) (f + 1)) l4 = pa1 s bl (.os i1 (f + 1)) (.os i3 (f + 1)) l := by
        simp [pa1, l4b, l4c, l4n]
      simp only [con2, this] at ha
      simpa [Con.set] using ha
    | nb => simpa [con2, Con.set] using ha
    | cb =>
      simp only [con2, ecs l4 fun f' i _ => l4n _ (by simp) (by simp) (by simp), l4s] at ha
      simpa [Con.set] using ha
    | cs f' =>
      by_cases e : f' = f
      · subst e
        have : (List.range (ar s f')).map (fun i' => if i' < 0 then [AV.mp (l4 (.cm (f', i')))] else [.val (.map none)]) = List.replicate (ar s f') [.val (.map none)] := by
          simp [List.map_const']
        simp only [con2, if_true, this] at ha
        simpa [Con.set] using ha
      · simp [con2, e] at ha
    | cm k =>
      by_cases e : okK s k ∧ k.1 < f
      · simpa [con2, con1, Con.set, e.1, e.2] using ha
      · have : ¬ (okK s k ∧ (k.1 < f ∨ k.1 = f ∧ k.2 < 0)) := fun ⟨h1, h2⟩ => h2.elim (fun h => e ⟨h1, h⟩) fun h => by omega
        simp only [con2, if_neg this] at ha; cases ha
    | mh => simpa [con2, con1, Con.set] using ha
    | mw => simpa [con2, con1, Con.set] using ha
    | mi => simpa [con2, con1, Con.set] using ha
    | _ => simp [con2] at ha
  clear R3 R4 R5 xa xa'
  have hcb : ∀ l' : Lo, ((CSl s l').take f ++ [[.os (l' (.cs f)) (ar s f)]] : List (List AV)).length = f + 1 := fun l' => by
    rw [List.length_append, List.length_take, CSl_len]; simp; omega
  have hcg : ∀ l' : Lo, ((CSl s l').take f ++ [[.os (l' (.cs f)) (ar s f)]] : List (List AV)).getD f [] = [.os (l' (.cs f)) (ar s f)] := fun l' => by
    have : ((CSl s l').take f).length = f := by rw [List.length_take, CSl_len]; omega
    rw [List.getD_eq_getElem?_getD, List.getElem?_append_right (by omega), this, Nat.sub_self]; rfl
  have rdc : ∀ {l' : Lo} {h' : Heap} {i : Nat} {K : AV → Prop}, RC hb (con2 s bl f i l') l' h' → (∀ a, (∀ i, a ≠ .cm (f, i)) → l' a = l4 a) → K (.os (l4 (.cs f)) (ar s f)) →
      (nilA (.op (l .pa) 0 0) <| fldA 3 (.op (l .pa) 0 0) fun p => loadV p h' fun x => idxA 1 x (I (f : Nat)) h' fun q => loadV q h' K) := fun {l' h' i K} R hl hk => by
    have xa : h' (l .pa) = some (.arr 10 [pa1 s bl (.os (l' .nb) (f + 1)) (.os (l' .cb) (f + 1)) l']) := by
      have := R.own .pa _ rfl
      rwa [hl _ (by simp), l4n _ (by simp) (by simp) (by simp)] at this
    have xc : h' (l' .cb) = some (.arr 1 ((CSl s l').take f ++ [[.os (l' (.cs f)) (ar s f)]])) := R.own .cb _ rfl
    refine rdP (x := .os (l' .cb) (f + 1)) xa (by omega) rfl ?_
    rw [w_idx_os xc]
    refine ⟨rfl, by omega, by omega, by rw [hcb]; omega, ?_⟩
    rw [Int.toNat_natCast, w_loadV_op xc, hcb, hcg]
    refine ⟨by omega, by omega, ?_⟩
    rw [g_0, hl _ (by simp)]; exact hk
  refine rdc R6 (fun _ _ => rfl) ?_
  rw [w_len_os]
  refine loop_up (ar s f) (fun i σ' h' => σ' = [I i] ∧ ∃ l', (∀ a, (∀ i, a ≠ .cm (f, i)) → l' a = l4 a) ∧ RC hb (con2 s bl f i l') l' h') ⟨rfl, l4, fun _ _ => rfl, R6⟩ (fun k σ' h' ⟨e, _⟩ => by rw [e]; rfl) ?_
  clear R6
  rintro i σ' h' K' hi ⟨rfl, l', hl', R⟩ hK'
  simp only [g_0]
  by_cases hlt : i < ar s f
  · have hlt' : (i : Int) < (ar s f : Nat) := by omega
    simp only [w_lss, hlt', decide_true, w_brA, if_true]
    refine rdc R hl' ?_
    intro m hm
    have R1 := R.mk' (.cm (f, i)) (.map []) hm
    have xs : h' (l4 (.cs f)) = some (.arr 1 ((List.range (ar s f)).map fun i' => if i' < i then [.mp (l' (.cm (f, i')))] else [.val (.map none)])) := by
      have := R.own (.cs f) (.arr 1 ((List.range (ar s f)).map fun i' => if i' < i then [.mp (l' (.cm (f, i')))] else [.val (.map none)])) (by simp [con2])
      rwa [hl' _ (by simp)] at this
    have xs' : (h'.set m (.map [])) (l4 (.cs f)) = some (.arr 1 ((List.range (ar s f)).map fun i' => if i' < i then [.mp (l' (.cm (f, i')))] else [.val (.map none)])) := by
      rw [Heap.set_ne]; exact xs
      intro e; rw [e, hm] at xs; cases xs
    rw [w_idx_os xs']
    refine ⟨rfl, by omega, hlt', by simp, ?_⟩
    rw [w_one_mp, w_store xs', Int.toNat_natCast]
    refine ⟨by simpa using hlt, by simp, ?_⟩
    rw [w_add, wrap_k (k := i) (by omega)]
    have R2 := R1.upd (a := .cs f) (.arr 1 (((List.range (ar s f)).map fun i' => if i' < i then [.mp (l' (.cm (f, i')))] else [.val (.map none)]).set i [.mp m])) (m := .arr 1 ((List.range (ar s f)).map fun i' => if i' < i then [.mp (l' (.cm (f, i')))] else [.val (.map none)])) (by simp [Con.set, con2])
    rw [Lo.set_ne (by simp), hl' _ (by simp)] at R2
    have egd : ((List.range (ar s f)).map fun i' => if i' < i then [AV.mp (l' (.cm (f, i')))] else [.val (.map none)]).getD i [] = [.val (.map none)] := by
      simp [List.getD_eq_getElem?_getD, hlt]
    rw [egd]
    refine hK' hlt _ _ ⟨rfl, l'.set (.cm (f, i)) m, fun a ha => by rw [Lo.set_ne (ha i)]; exact hl' a ha, R2.weak fun a n ha => ?_⟩
    have l5n : ∀ a, a ≠ .cm (f, i) → (l'.set (.cm (f, i)) m) a = l' a := fun a ha => Lo.set_ne ha
    cases a with
    | cs f' =>
      by_cases e : f' = f
      · subst e
        have : ((List.range (ar s f')).map fun i' => if i' < i + 1 then [AV.mp ((l'.set (.cm (f', i)) m) (.cm (f', i')))] else [.val (.map none)]) = ((List.range (ar s f')).map fun i' => if i' < i then [.mp (l' (.cm (f', i')))] else [.val (.map none)]).set i [.mp m] := by
          refine List.ext_getElem (by simp) fun q h1 h2 => ?_
          simp only [List.getElem_map, List.getElem_range, List.getElem_set]
          by_cases e : i = q
          · subst e; simp
          · have e1 : (Ad.cm (f', q)) ≠ .cm (f', i) := by simp; omega
            rw [l5n _ e1, if_neg e]
            by_cases e2 : q < i
            · rw [if_pos (by omega), if_pos e2]
            · rw [if_neg (by omega), if_neg e2]
        simp only [con2, if_true, this] at ha
        simpa [Con.set] using ha
      · simp [con2, e] at ha
    | cm k =>
      by_cases e : k = (f, i)
      · subst e
        have : okK s (f, i) ∧ ((f, i).1 < f ∨ (f, i).1 = f ∧ (f, i).2 < i + 1) := ⟨⟨hf, hlt⟩, .inr ⟨rfl, by simp⟩⟩
        rw [show con2 s bl f (i + 1) (l'.set (.cm (f, i)) m) (.cm (f, i)) = some (.map []) from if_pos this] at ha
        simpa [Con.set] using ha
      · have : (okK s k ∧ (k.1 < f ∨ k.1 = f ∧ k.2 < i + 1)) ↔ (okK s k ∧ (k.1 < f ∨ k.1 = f ∧ k.2 < i)) := by
          refine and_congr_right fun _ => ⟨fun h => h.elim .inl fun h => .inr ⟨h.1, ?_⟩, fun h => h.elim .inl fun h => .inr ⟨h.1, by omega⟩⟩
          have : k.2 ≠ i := fun e2 => e (Prod.ext h.1 e2)
          omega
        simp only [con2, this] at ha
        simpa [Con.set, con2, e] using ha
    | pa =>
      have : pa1 s bl (.os ((l'.set (.cm (f, i)) m) .nb) (f + 1)) (.os ((l'.set (.cm (f, i)) m) .cb) (f + 1)) (l'.set (.cm (f, i)) m) = pa1 s bl (.os (l' .nb) (f + 1)) (.os (l' .cb) (f + 1)) l' := by
        simp [pa1, l5n]
      simp only [con2, this] at ha
      simpa [Con.set, con2] using ha
    | cb =>
      have : (CSl s (l'.set (.cm (f, i)) m)).take f = (CSl s l').take f := CSl_take fun f' i' hf' => l5n _ (by simp; omega)
      simp only [con2, this, l5n _ (show Ad.cs f ≠ .cm (f, i) by simp)] at ha
      simpa [Con.set, con2] using ha
    | _ => first | (simp [con2] at ha; done) | simpa [Con.set, con2] using ha
  · have hie : i = ar s f := by omega
    subst hie
    simp only [w_lss, Int.lt_irrefl, decide_false, w_brA, Bool.false_eq_true, if_false]
    rw [w_add, wrap_k (k := f) (by omega)]
    obtain ⟨h6, r1, R1⟩ := R.frzEl (a := .cs f) (b := .cb) (n := f) (j := 0) (sz := 1) (zb := 1) (len := ar s f) (els := (List.range (ar s f)).map fun i' => if i' < ar s f then [.mp (l' (.cm (f, i')))] else [.val (.map none)]) (elsb := (CSl s l').take f ++ [[.os (l' (.cs f)) (ar s f)]]) (by simp [con2]) rfl (by simp) (by rw [hcb]; omega) (by omega)
      (fun i hi => by
        by_cases e : i = f
        · subst e; rw [hcg]; rfl
        · rw [hcb] at hi
          have : i < ((CSl s l').take f).length := by rw [List.length_take, CSl_len]; omega
          rw [List.getD_eq_getElem?_getD, List.getElem?_append_left this, List.getElem?_take]
          have h2 : i < f := by omega
          have h3 : i < s.funs.length := by omega
          simp [CSl, h2, h3]) (by rw [hcg]; rfl) (by simp) (fun i hi => by
        have : i < ar s f := by simpa using hi
        simp [List.getD_eq_getElem?_getD, this])
    refine hK l' h' h6 (by rw [hl' _ (by simp), l4n _ (by simp) (by simp) (by simp)]) r1 (R1.weak fun a n ha => ?_)
    rw [hcg]
    cases a with
    | pa => simpa [Con.set, Con.del, con1, con2] using ha
    | nb => simpa [Con.set, Con.del, con1, con2] using ha
    | cb =>
      have e1 : ((List.range (ar s f)).map fun i' => if i' < ar s f then [AV.mp (l' (.cm (f, i')))] else [.val (.map none)]) = (List.range (ar s f)).map fun i' => [.mp (l' (.cm (f, i')))] :=
        List.map_congr_left fun i' hi' => by rw [if_pos (List.mem_range.1 hi')]
      have e2 : (((CSl s l').take f ++ [[AV.os (l' (.cs f)) (ar s f)]]).set f ([AV.os (l' (.cs f)) (ar s f)].set 0 (.rs 1 ((List.range (ar s f)).map fun i' => if i' < ar s f then [.mp (l' (.cm (f, i')))] else [.val (.map none)])))) = (CSl s l').take (f + 1) := by
        rw [CSl_take1 l' hf, e1]
        have : ((CSl s l').take f).length = f := by rw [List.length_take, CSl_len]; omega
        simp [List.set_append, this]
      rw [e2]
      simpa [Con.set, con1] using ha
    | cm k =>
      have : (okK s k ∧ k.1 < f + 1) ↔ (okK s k ∧ (k.1 < f ∨ k.1 = f ∧ k.2 < ar s f)) := by
        refine and_congr_right fun hk => ⟨fun h => ?_, fun h => by omega⟩
        by_cases e : k.1 < f
        · exact .inl e
        · have e2 : k.1 = f := by omega
          exact .inr ⟨e2, by have := hk.2; rwa [e2] at this⟩
      simp only [con1, this] at ha
      simpa [Con.set, Con.del, con2] using ha
    | _ => first | (simp [con1] at ha; done) | simpa [Con.set, Con.del, con1, con2] using ha
end
end Am
