/- flow.sorted, flow.Flow. -/
import Derived.Test.YtoifckjdnldlpaaGreatZS3
import Derived.Test.YtoifckjdnldlpaaGreatZFj
set_option linter.unusedVariables false
set_option linter.unusedSimpArgs false
namespace Am
open Go Go.Proofs.Tryz
theorem flow_sorted_c {h : Heap} {id : Nat} {ks : List Pc} {v : Pc → AV} (hh : h id = some (mpN ks v)) (hn : ks.Nodup) (hb : ∀ p, p ∈ ks → p.1 < 1000000 ∧ p.2 < 1000000) (hl : ks.length ≤ 1000000) {Q : AV → Heap → Prop} (hq : Q (.rs 2 ((srtP ks).map plC)) h) : ACalls prog n_flow_sorted [.mp id] h Q := by
  refine flow_sorted_call ?_
  unfold flow_sorted
  refine range_c hh fun it hit => ?_
  have hid : id ≠ it := fun e => by subst e; rw [hit] at hh; cases hh
  refine loop_down (fun m σ' h' => ∃ left cur ps x, m = left.length ∧ left.Nodup ∧ (∀ i, i ∈ left → i < ks.length) ∧ (∀ p, p ∈ ps ↔ ∃ i, ∃ hi : i < ks.length, i ∉ left ∧ ks[i] = p) ∧ ps.Nodup ∧ σ' = [x] ∧ h' it = some (.iter id ks.length left cur) ∧ Ow (h.set it (.iter id ks.length left cur)) h' 2 (ps.map plC) x ∧ Fr h h') ks.length
    ⟨List.range ks.length, none, [], .e0, by simp, List.nodup_range, by simp, fun p => ⟨fun h => by (cases h), fun ⟨i, hi, hn, _⟩ => absurd (List.mem_range.2 hi) hn⟩, by simp, rfl, Heap.set_same _ _ _, .inl ⟨rfl, rfl⟩, fun j n hj => ?_⟩ ?_
  · rw [Heap.set_ne]; exact hj
    rintro rfl; rw [hit] at hj; cases hj
  rintro m σ' h' K ⟨left, cur, ps, x, rfl, hnd, hlt, hps, hpn, rfl, hi, ho, hf⟩ hK
  have hpl : ps.length ≤ ks.length := List.Nodup.length_le_of_subset hpn fun p hp => by
    obtain ⟨i, hi, _, e⟩ := (hps p).1 hp
    exact e ▸ List.getElem_mem hi
  refine next_c hi (hf _ _ hh) hlt (fun hle => ?_) fun i hil him => ?_
  · subst hle
    refine tp0 ?_
    simp only [w_brA, Bool.false_eq_true, if_false, g_0]
    have hperm : ps.Perm ks := by
      refine (List.perm_ext_iff_of_nodup hpn hn).2 fun p => ?_
      rw [hps]
      exact ⟨fun ⟨i, hi, _, e⟩ => e ▸ List.getElem_mem hi, fun hp => by
        obtain ⟨i, hi, e⟩ := List.mem_iff_getElem.1 hp
        exact ⟨i, hi, by simp, e⟩⟩
    have esrt : srtP ps = srtP ks := srtP_perm hperm
    rcases ho with ⟨he, rfl⟩ | ⟨hne, id2, rfl, h1, h2⟩
    · have : ps = [] := by simpa using he
      subst this
      refine callS_of (sortF_nil ?_)
      have : ks = [] := by simpa using hperm
      subst this
      exact retA_wk .e0 (HRef.sub hf) (by simpa [srtP] using hq)
    · have hlen : (ps.map plC).length = ps.length := by simp
      rw [hlen]
      obtain ⟨n1, n2⟩ := set_none h2
      refine callS_of (sortF_c h1 (fun p hp => hb p (hperm.mem_iff.1 hp)) (by omega) ?_)
      rw [esrt]
      refine retA_wk (.frz (Heap.set_same _ _ _) n2 (by simp [srtP, hperm.length_eq]) (by simp [srtP, hperm.length_eq]) (fun i hi => ?_) fun i j _ _ => .refl) (HRef.sub fun j n hj => ?_) hq
      · have : i < (srtP ks).length := by simpa [srtP, hperm.length_eq] using hi
        simp [List.getD_eq_getElem?_getD, this]
      · rw [Heap.set_ne]; exact hf j n hj
        rintro rfl; rw [n2] at hj; cases hj
  · refine tp0 ?_
    simp only [w_brA, if_true]
    have hf2 : (h'.set it (.iter id ks.length (left.erase i) (some i))) id = some (mpN ks v) := by rw [Heap.set_ne hid]; exact hf _ _ hh
    refine entry_c (Heap.set_same _ _ _) hf2 hil ?_
    refine tp0 ?_
    simp only [w_agg, List.length_cons, List.length_nil, true_and, g_0, g_1]
    have ho2 : Ow (h.set it (.iter id ks.length (left.erase i) (some i))) (h'.set it (.iter id ks.length (left.erase i) (some i))) 2 (ps.map plC) x := ho.to fun id' a b => by
      have : id' ≠ it := fun e => by subst e; rw [hi] at a; cases a
      exact ⟨by rw [Heap.set_ne this]; exact a, by rw [Heap.set_ne this] at b ⊢; exact b⟩
    refine ho2.app (by simp) (fun j n hj => ?_) (by simp; omega) fun x2 h2 o2 f2 _ => ?_
    · by_cases e : j = it
      · subst e; rw [Heap.set_same] at hj ⊢; exact hj
      · rw [Heap.set_ne e] at hj ⊢; exact hf j n hj
    have hnot : ks[i] ∉ ps := fun h => by
      obtain ⟨j, hj, hjl, e⟩ := (hps _).1 h
      have := (List.getElem_inj hn).1 e
      subst this; exact hjl him
    refine hK (left.erase i).length [x2] h2 (by rw [List.length_erase_of_mem him]; have := List.length_pos_of_mem him; omega) ⟨left.erase i, some i, ps ++ [ks[i]], x2, rfl, hnd.erase i, fun j hj => hlt j (List.mem_of_mem_erase hj), fun p => ?_, ?_, rfl, f2 _ _ (Heap.set_same _ _ _), by rw [List.map_append]; exact o2, fun j n hj => ?_⟩
    · rw [List.mem_append, hps, List.mem_singleton]
      constructor
      · rintro (⟨j, hj, hn, e⟩ | rfl)
        · exact ⟨j, hj, fun h => hn (List.mem_of_mem_erase h), e⟩
        · exact ⟨i, hil, fun h => ((hnd.mem_erase_iff).1 h).1 rfl, rfl⟩
      · rintro ⟨j, hj, hn, e⟩
        by_cases e2 : j = i
        · subst e2; exact .inr e.symm
        · exact .inl ⟨j, hj, fun h => hn ((List.mem_erase_of_ne e2).2 h), e⟩
    · rw [List.nodup_append]
      exact ⟨hpn, by simp, fun a ha b hb => by
        have : b = ks[i] := by simpa using hb
        subst this; rintro rfl; exact hnot ha⟩
    · refine f2 j n ?_
      rw [Heap.set_ne]; exact hj
      rintro rfl; rw [hit] at hj; cases hj
def flowC (s : Sch) (F : Pc → List Pc) : AV := .rs 1 ((List.range s.funs.length).map fun f => [.rs 1 ((List.range (ar s f)).map fun i => [.rs 2 ((F (f, i)).map plC)])])
structure IsFlow (s : Sch) (bl : List Bool) (F : Pc → List Pc) : Prop where
  mem : ∀ k p, p ∈ F k ↔ FlP s (Rb bl) true k p
  ord : ∀ k, ∃ l : List Pc, l.Nodup ∧ F k = srtP l
theorem flow_Flow_c {s : Sch} (H : SOk s) (Sm : Small s) {h : Heap} {Q : AV → Heap → Prop} (hq : ∀ bl F, IsR s bl → IsFlow s bl F → Q (.tup [flowC s F, I 0]) h) : ACalls prog n_flow_Flow [sm s] h Q := by
  refine flow_Flow_call ?_
  unfold flow_Flow sm
  simp only [w_agg, List.length_cons, List.length_nil, true_and, g_0, g_1]
  refine callS_of (scheme_Check_c s ?_)
  rw [if_pos ((schB_iff s).2 H), w_neq, w_brA]
  simp only [decide_true, Bool.not_true, Bool.false_eq_true, if_false]
  refine callS_of (analyse_c H Sm false fun bl σ l h1 hbl R r => ?_)
  refine tp0 (tp1 ?_)
  simp only [w_notA, Bool.not_true, w_brA, Bool.false_eq_true, if_false, w_len_rs, fnCs_len]
  have hfew := H.few
  obtain ⟨F, hF⟩ : ∃ F : Pc → List Pc, F = fun k => srtP (pick σ.cl k) := ⟨_, rfl⟩
  have hfl : IsFlow s bl F := ⟨fun k p => by rw [hF]; simp only [srtP_mem, mem_pick]; exact r.cl k p, fun k => ⟨_, pick_nodup r.ok.cln k, by rw [hF]⟩⟩
  have hq := hq bl F hbl hfl
  clear hfl
  refine ⟨rfl, by omega, by omega, fun i1 hi1 => ?_⟩
  rw [Int.toNat_natCast]
  have R1 := R.mk' .nb (.arr 1 (List.replicate s.funs.length [.e0])) hi1
  generalize h1.set i1 (.arr 1 (List.replicate s.funs.length [.e0])) = h2 at *
  let row : Nat → List (List AV) := fun f => (List.range (ar s f)).map fun i => [.rs 2 ((F (f, i)).map plC)]
  let outs : Nat → List (List AV) := fun f => (List.range s.funs.length).map fun f' => if f' < f then [.rs 1 (row f')] else [.e0]
  have houts : ∀ f, (outs f).length = s.funs.length := fun f => by simp [outs]
  have ogd : ∀ f f', f' < s.funs.length → (outs f).getD f' [] = if f' < f then [.rs 1 (row f')] else [.e0] := fun f f' h => by simp [outs, List.getD_eq_getElem?_getD, h]
  let X : Nat → Con := fun f => Con.nil.set .nb (.arr 1 (outs f))
  have R2 : RC h (ovl (conS s bl σ (l.set .nb i1)) (X 0)) (l.set .nb i1) h2 := R1.weak fun a n ha => by
    have ec : conS s bl σ (l.set .nb i1) = conS s bl σ l := by
      funext b; cases b <;> simp [conS, paC, wV, CSl, Lo.set]
    rw [ec] at ha
    cases a with
    | nb =>
      have : outs 0 = List.replicate s.funs.length [.e0] := by simp [outs, List.map_const']
      simpa [ovl, conS, X, Con.set, this] using ha
    | _ => first | (simp [ovl, conS, X, Con.set, Con.nil] at ha; done) | simpa [ovl, conS, X, Con.set, Con.nil] using ha
  clear R R1
  refine loop_upW s.funs.length (fun f σ' h' => σ' = [I f] ∧ ∃ l', l' .nb = i1 ∧ l' .pa = l .pa ∧ RC h (ovl (conS s bl σ l') (X f)) l' h') (Wk.refl ⟨rfl, _, by rw [Lo.set_same], by rw [Lo.set_ne (by simp)], R2⟩) (fun k σ' h' ⟨e, _⟩ => by rw [e]; rfl) ?_
  clear R2 hi1
  rintro f σ' h3 K hf ⟨rfl, l', el, ep, R⟩ hK
  simp only [g_0]
  by_cases hlt : f < s.funs.length
  · have hlt' : (f : Int) < s.funs.length := by omega
    have har := ar_le H hlt
    simp only [w_lss, hlt', decide_true, w_brA, if_true]
    have rdc : ∀ {l' : Lo} {Y : Con} {h' : Heap} {K : AV → Prop}, RC h (ovl (conS s bl σ l') Y) l' h' → l' .pa = l .pa → K (.rs 1 ((List.range (ar s f)).map fun i => [.mp (l' (.cm (f, i)))])) →
        (nilA (.op (l .pa) 0 0) <| fldA 3 (.op (l .pa) 0 0) fun p => loadV p h' fun x => idxA 1 x (I (f : Nat)) h' fun q => loadV q h' K) := fun {l' Y h' K} R e hk => by
      have xa : h' (l .pa) = some (.arr 10 [paC s bl σ l']) := by rw [← e]; exact R.own .pa _ rfl
      refine rdP (x := .rs 1 (CSl s l')) xa (by omega) rfl ?_
      refine ix_rs (by rw [CSl_len]; exact hlt) (CSl_get l' hlt) ?_
      rw [w_loadV_ro]; exact hk
    refine rdc R ep ?_
    simp only [w_len_rs, List.length_map, List.length_range]
    refine ⟨rfl, by omega, by omega, fun i2 hi2 => ?_⟩
    rw [Int.toNat_natCast]
    have R1 := R.mk' (.cs f) (.arr 1 (List.replicate (ar s f) [.e0])) hi2
    generalize h3.set i2 (.arr 1 (List.replicate (ar s f) [.e0])) = h4 at *
    have xo : h4 i1 = some (.arr 1 (outs f)) := by
      have := R1.own .nb (.arr 1 (outs f)) (by simp [Con.set, ovl, conS, X])
      rwa [Lo.set_ne (by simp), el] at this
    dsimp only
    rw [w_idx_os xo]
    refine ⟨rfl, by omega, hlt', by rw [houts]; exact Nat.le_refl _, ?_⟩
    rw [w_one_os, w_store xo, Int.toNat_natCast, ogd _ _ hlt, if_neg (Nat.lt_irrefl f)]
    refine ⟨by rw [houts]; exact hlt, by simp, ?_⟩
    have esp : splice [AV.e0] 0 [.os i2 (ar s f)] = [.os i2 (ar s f)] := rfl
    rw [esp]
    have R2 := R1.upd (a := .nb) (.arr 1 ((outs f).set f [.os i2 (ar s f)])) (m := .arr 1 (outs f)) (by simp [Con.set, ovl, conS, X])
    rw [Lo.set_ne (by simp), el] at R2
    generalize h4.set i1 (.arr 1 ((outs f).set f [.os i2 (ar s f)])) = h5 at *
    let rows : Nat → List (List AV) := fun i => (List.range (ar s f)).map fun i' => if i' < i then [.rs 2 ((F (f, i')).map plC)] else [.e0]
    have hrows : ∀ i, (rows i).length = ar s f := fun i => by simp [rows]
    have rgd : ∀ i i', i' < ar s f → (rows i).getD i' [] = if i' < i then [.rs 2 ((F (f, i')).map plC)] else [.e0] := fun i i' h => by simp [rows, List.getD_eq_getElem?_getD, h]
    obtain ⟨l5, hl5⟩ : ∃ l5, l5 = l'.set (.cs f) i2 := ⟨_, rfl⟩
    rw [← hl5] at R2
    have l5n : ∀ a, a ≠ .cs f → l5 a = l' a := fun a ha => by rw [hl5, Lo.set_ne ha]
    have l5s : l5 (.cs f) = i2 := by rw [hl5, Lo.set_same]
    let Y : Nat → Con := fun i => (Con.nil.set .nb (.arr 1 ((outs f).set f [.os i2 (ar s f)]))).set (.cs f) (.arr 1 (rows i))
    have R3 : RC h (ovl (conS s bl σ l5) (Y 0)) l5 h5 := R2.weak fun a n ha => by
      have ec : conS s bl σ l5 = conS s bl σ l' := by
        funext b; cases b <;> simp [conS, paC, wV, CSl, l5n]
      rw [ec] at ha
      cases a with
      | nb => simpa [ovl, conS, Y, Con.set] using ha
      | cs f' =>
        by_cases e : f' = f
        · subst e
          have : rows 0 = List.replicate (ar s f') [.e0] := by simp [rows, List.map_const']
          simpa [ovl, conS, Y, Con.set, this] using ha
        · simp [ovl, conS, Y, Con.set, Con.nil, e] at ha
      | _ => first | (simp [ovl, conS, Y, Con.set, Con.nil] at ha; done) | simpa [ovl, conS, X, Y, Con.set, Con.nil] using ha
    clear R R1 R2
    refine rdc R3 (by rw [l5n _ (by simp), ep]) ?_
    simp only [w_len_rs, List.length_map, List.length_range]
    refine loop_up (ar s f) (fun i σ' h' => σ' = [I i] ∧ RC h (ovl (conS s bl σ l5) (Y i)) l5 h') ⟨rfl, R3⟩ (fun k σ' h' ⟨e, _⟩ => by rw [e]; rfl) ?_
    clear R3 xo hi2
    rintro i σ' h6 K' hi ⟨rfl, R⟩ hK'
    simp only [g_0]
    have xo : h6 i1 = some (.arr 1 ((outs f).set f [.os i2 (ar s f)])) := by
      have := R.own .nb (.arr 1 ((outs f).set f [.os i2 (ar s f)])) (by simp [Con.set, ovl, conS, Y])
      rwa [l5n _ (by simp), el] at this
    have xr : h6 i2 = some (.arr 1 (rows i)) := by
      have := R.own (.cs f) (.arr 1 (rows i)) (by simp [Con.set, ovl, conS, Y])
      rwa [l5s] at this
    have ogs : ((outs f).set f [.os i2 (ar s f)]).getD f [] = [.os i2 (ar s f)] := by
      simp [List.getD_eq_getElem?_getD, houts, hlt]
    by_cases hlt2 : i < ar s f
    · have hlt2' : (i : Int) < (ar s f : Nat) := by omega
      simp only [w_lss, hlt2', decide_true, w_brA, if_true]
      rw [w_idx_os xo]
      refine ⟨rfl, by omega, hlt', by simp [houts], ?_⟩
      rw [Int.toNat_natCast, w_loadV_op xo, ogs]
      refine ⟨by simp [houts, hlt], by omega, ?_⟩
      rw [g_0]
      refine rdc R (by rw [l5n _ (by simp), ep]) ?_
      refine ix_rs (cs := [.mp (l5 (.cm (f, i)))]) (by simpa using hlt2) (by simp [List.getD_eq_getElem?_getD, hlt2]) ?_
      rw [w_loadV_ro]
      have hk : okK s (f, i) := ⟨hlt, hlt2⟩
      have xm : h6 (l5 (.cm (f, i))) = some (mpN (pick σ.cl (f, i)) fun _ => B true) := R.own (.cm (f, i)) _ (by simp [ovl, conS, hk])
      refine callS_of (flow_sorted_c xm (pick_nodup r.ok.cln _) (fun p hp => ?_) ?_ ?_)
      · obtain ⟨_, h2, _⟩ := (((r.cl _ _).1 (mem_pick.1 hp)).typed H).2 rfl
        have := H.body (getD_mem h2.1)
        exact ⟨by have := h2.1; omega, by have := h2.2; omega⟩
      · have := List.Nodup.length_le_of_subset (pick_nodup r.ok.cln (f, i)) fun p hp => mem_allPl.2 (((((r.cl _ _).1 (mem_pick.1 hp)).typed H).2 rfl).2.1)
        have hS : (allPl s).length ≤ 150 := Sm
        omega
      · refine ⟨?_, ?_, ?_⟩
        · rw [w_idx_os xo]
          exact ⟨rfl, by omega, hlt', by simp [houts], by rw [Int.toNat_natCast]⟩
        · rw [w_loadV_op xo, ogs]
          exact ⟨by simp [houts, hlt], by omega, rfl⟩
        · rw [w_idx_os xr]
          refine ⟨rfl, by omega, hlt2', by rw [hrows]; exact Nat.le_refl _, ?_⟩
          rw [w_one_rs, w_store xr, Int.toNat_natCast, rgd _ _ hlt2, if_neg (Nat.lt_irrefl i)]
          refine ⟨by rw [hrows]; exact hlt2, by simp, ?_⟩
          rw [w_add, wrap_k (k := i) (by omega)]
          have R4 := R.upd (a := .cs f) (.arr 1 ((rows i).set i [.rs 2 ((srtP (pick σ.cl (f, i))).map plC)])) (m := .arr 1 (rows i)) (by simp [Con.set, ovl, conS, Y])
          rw [l5s] at R4
          refine hK' hlt2 _ _ ⟨rfl, R4.weak fun a n ha => ?_⟩
          cases a with
          | cs f' =>
            by_cases e : f' = f
            · subst e
              have : rows (i + 1) = (rows i).set i [.rs 2 ((srtP (pick σ.cl (f', i))).map plC)] := by
                refine List.ext_getElem (by simp [rows]) fun q h1 h2 => ?_
                simp only [rows, List.getElem_map, List.getElem_range, List.getElem_set]
                by_cases e : i = q
                · subst e; simp [hF]
                · rw [if_neg e]
                  by_cases e2 : q < i
                  · rw [if_pos (by omega), if_pos e2]
                  · rw [if_neg (by omega), if_neg e2]
              simpa [ovl, conS, Y, Con.set, this] using ha
            · simp [ovl, conS, Y, Con.set, Con.nil, e] at ha
          | _ => first | (simp [ovl, conS, Y, Con.set, Con.nil] at ha; done) | simpa [ovl, conS, Y, Con.set, Con.nil] using ha
    · have hie : i = ar s f := by omega
      subst hie
      simp only [w_lss, Int.lt_irrefl, decide_false, w_brA, Bool.false_eq_true, if_false]
      rw [w_add, wrap_k (k := f) (by omega)]
      obtain ⟨h7, r1, R4⟩ := R.frzEl (a := .cs f) (b := .nb) (n := f) (j := 0) (sz := 1) (zb := 1) (len := ar s f) (els := rows (ar s f)) (elsb := (outs f).set f [.os i2 (ar s f)]) (by simp [Con.set, ovl, conS, Y]) (by simp [Con.set, ovl, conS, Y]) (by simp) (by simp [houts, hlt]) (by omega)
        (fun q hq => by
          have hq' : q < s.funs.length := by simpa [houts] using hq
          rw [List.getD_eq_getElem?_getD, List.getElem?_set]
          by_cases e : f = q
          · subst e; simp [houts, hlt]
          · rw [if_neg e, ← List.getD_eq_getElem?_getD, ogd _ _ hq']
            split <;> rfl) (by rw [ogs, l5s]; rfl) (hrows _) (fun q hq => by
          have hq' : q < ar s f := by simpa [hrows] using hq
          rw [rgd _ _ hq', if_pos hq']; rfl)
      refine hK hlt _ _ (Wk.none r1 ⟨rfl, l5, by rw [l5n _ (by simp), el], by rw [l5n _ (by simp), ep], R4.weak fun a n ha => ?_⟩)
      have erow : rows (ar s f) = row f := List.map_congr_left fun i' hi' => by rw [if_pos (List.mem_range.1 hi')]
      rw [ogs, erow]
      cases a with
      | nb =>
        have : outs (f + 1) = ((outs f).set f [.os i2 (ar s f)]).set f ([AV.os i2 (ar s f)].set 0 (.rs 1 (row f))) := by
          rw [List.set_set]
          refine List.ext_getElem (by simp [outs]) fun q h1 h2 => ?_
          simp only [outs, List.getElem_map, List.getElem_range, List.getElem_set]
          by_cases e : f = q
          · subst e; simp
          · rw [if_neg e]
            by_cases e2 : q < f
            · rw [if_pos (by omega), if_pos e2]
            · rw [if_neg (by omega), if_neg e2]
        simp only [ovl, conS, X, Con.set_same, Option.none_or] at ha
        rw [this] at ha
        simpa [Con.set] using ha
      | cs f' => simp [ovl, conS, X, Con.set, Con.nil] at ha
      | _ => first | (simp [ovl, conS, X, Con.set, Con.nil] at ha; done) | simpa [ovl, conS, X, Y, Con.set, Con.del, Con.nil] using ha
  · have hfe : f = s.funs.length := by omega
    subst hfe
    simp only [w_lss, Int.lt_irrefl, decide_false, w_brA, Bool.false_eq_true, if_false]
    have xo : h3 i1 = some (.arr 1 (outs s.funs.length)) := by
      have := R.own .nb (.arr 1 (outs s.funs.length)) (by simp [Con.set, ovl, conS, X])
      rwa [el] at this
    have hi1 : h i1 = none := by
      have := R.new .nb (.arr 1 (outs s.funs.length)) (by simp [Con.set, ovl, conS, X])
      rwa [el] at this
    have eo : outs s.funs.length = (List.range s.funs.length).map fun f => [.rs 1 (row f)] := List.map_congr_left fun i' hi' => by rw [if_pos (List.mem_range.1 hi')]
    refine retA_wk (Ref.tups (.cons (.frz xo hi1 (by rw [houts]; exact Nat.le_refl _) (houts _) (fun i hi => ?_) fun i j _ _ => .refl) (.cons .refl .nil))) (HRef.sub R.fr) ?_
    · rw [ogd _ _ hi, if_pos hi]; rfl
    · rw [eo]; exact hq
end Am
