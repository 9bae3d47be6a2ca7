/- FlowHeads answers true (in the seat that has it: HT holds its functions' texts). -/
import Derived.Test.YtoifckjdnldlpaaGreatZGe
import Derived.Test.YtoifckjdnldlpaaGreatZS1
import Derived.Test.YtoifckjdnldlpaaGreatZHT
import Derived.Lib.RowBridge
set_option linter.unusedVariables false
set_option linter.unusedSimpArgs false
namespace Am
open Go Go.Proofs.Tryz
abbrev SS (l : List Int) : Prop := l.Pairwise (· < ·)
theorem SS.ext {a : List Int} : ∀ {b : List Int}, SS a → SS b → (∀ x, x ∈ a ↔ x ∈ b) → a = b := by
  induction a with
  | nil => intro b _ _ h; cases b with
    | nil => rfl
    | cons y b => exact absurd ((h y).2 (by simp)) (by simp)
  | cons x a ih => intro b ha hb h; cases b with
    | nil => exact absurd ((h x).1 (by simp)) (by simp)
    | cons y b =>
      replace ha := List.pairwise_cons.1 ha
      replace hb := List.pairwise_cons.1 hb
      have hxy : x = y := by
        rcases List.mem_cons.1 ((h x).1 (by simp)) with e | e
        · exact e
        · rcases List.mem_cons.1 ((h y).2 (by simp)) with e' | e'
          · exact e'.symm
          · have := hb.1 x e; have := ha.1 y e'; omega
      subst hxy
      rw [ih ha.2 hb.2 fun z => ?_]
      constructor
      · intro hz
        rcases List.mem_cons.1 ((h z).1 (by simp [hz])) with e | e
        · have := ha.1 z hz; omega
        · exact e
      · intro hz
        rcases List.mem_cons.1 ((h z).2 (by simp [hz])) with e | e
        · have := hb.1 z hz; omega
        · exact e
theorem cu_spec (d : Array Int) (hd : ∀ i j, i ≤ j → j < d.size → d[i]! ≤ d[j]!) : ∀ m, m ≤ d.size → SS (Lib.compactUpTo d m) ∧ (∀ x, x ∈ Lib.compactUpTo d m ↔ ∃ j, j < m ∧ d[j]! = x) := by
  intro m
  induction m with
  | zero => intro _; exact ⟨by simp [Lib.compactUpTo, SS], fun x => by simp [Lib.compactUpTo]⟩
  | succ m ih =>
    intro hm
    obtain ⟨h1, h2⟩ := ih (by omega)
    rw [Lib.compactUpTo_succ]
    by_cases hk : Lib.keeps d m = true
    · rw [if_pos hk]
      refine ⟨List.pairwise_append.2 ⟨h1, by simp, fun x hx y hy => ?_⟩, fun x => ?_⟩
      · rw [List.mem_singleton] at hy; subst hy
        obtain ⟨j, hj, rfl⟩ := (h2 x).1 hx
        have a := hd j (m - 1) (by omega) (by omega)
        have b := hd (m - 1) m (by omega) (by omega)
        have c : d[m]! ≠ d[m - 1]! := fun e => by rw [Lib.keeps_neg (by omega) e] at hk; cases hk
        omega
      · rw [List.mem_append, h2, List.mem_singleton]
        constructor
        · rintro (⟨j, hj, e⟩ | e)
          · exact ⟨j, by omega, e⟩
          · exact ⟨m, by omega, e.symm⟩
        · rintro ⟨j, hj, e⟩
          by_cases e' : j = m
          · subst e'; exact .inr e.symm
          · exact .inl ⟨j, by omega, e⟩
    · rw [if_neg hk, List.append_nil]
      refine ⟨h1, fun x => ?_⟩
      rw [h2]
      have hm0 : 0 < m := by
        cases m with
        | zero => exact absurd (Lib.keeps_lt_one d 0 (by omega)) hk
        | succ m => omega
      have e0 : d[m]! = d[m - 1]! := Classical.byContradiction fun e => hk (Lib.keeps_pos e)
      constructor
      · rintro ⟨j, hj, e⟩; exact ⟨j, by omega, e⟩
      · rintro ⟨j, hj, e⟩
        by_cases e' : j = m
        · subst e'; exact ⟨j - 1, by omega, by rw [← e0]; exact e⟩
        · exact ⟨j, by omega, e⟩
def fr (l : List Int) : List Int := Lib.compact (l.mergeSort fun x y => decide (x ≤ y))
theorem fr_spec (l : List Int) : SS (fr l) ∧ ∀ x, x ∈ fr l ↔ x ∈ l := by
  have hs : (l.mergeSort fun x y => decide (x ≤ y)).Pairwise fun a b => decide (a ≤ b) = true :=
    List.pairwise_mergeSort (fun a b c h1 h2 => by simp at h1 h2 ⊢; omega) (fun a b => by simp; omega) l
  have hm : ∀ x, x ∈ (l.mergeSort fun x y => decide (x ≤ y)) ↔ x ∈ l := fun x => List.mem_mergeSort
  unfold fr Lib.compact
  generalize (l.mergeSort fun x y => decide (x ≤ y)) = s at hs hm
  have hp := List.pairwise_iff_getElem.1 hs
  obtain ⟨h1, h2⟩ := cu_spec s.toArray (fun i j hij hj => by
    have hj' : j < s.length := by simpa using hj
    by_cases e : i = j
    · subst e; exact Int.le_refl _
    · have := hp i j (by omega) hj' (by omega)
      simpa [getElem!_pos, hj', show i < s.length by omega] using this) s.length (by simp)
  refine ⟨h1, fun x => ?_⟩
  rw [h2, ← hm]
  constructor
  · rintro ⟨j, hj, rfl⟩
    simp [hj]
  · intro hx
    obtain ⟨j, hj, e⟩ := List.getElem_of_mem hx
    exact ⟨j, hj, by simpa [hj] using e⟩
theorem iels_sz (l : List Int) (i : Nat) (hi : i < (iels l).length) : ((iels l).getD i []).length = 1 := by
  rw [iels_get l (by simpa [iels] using hi)]; rfl
def hdP (s : Sch) (R : Nat → Prop) (p : Pc) (f : Nat) : Prop := ∃ k, FlP s R false p (f, k)
noncomputable def hdsL (s : Sch) (R : Nat → Prop) (p : Pc) : List Int := ((List.range s.funs.length).filter fun f => @decide (hdP s R p f) (Classical.propDecidable _)).map fun f : Nat => (f : Int)
theorem hdsL_SS (s : Sch) (R : Nat → Prop) (p : Pc) : SS (hdsL s R p) := by
  unfold hdsL SS
  rw [List.pairwise_map]
  exact (List.pairwise_lt_range.filter _).imp fun h => by omega
theorem hdsL_mem {s : Sch} {R : Nat → Prop} {p : Pc} {x : Int} : x ∈ hdsL s R p ↔ ∃ f : Nat, f < s.funs.length ∧ hdP s R p f ∧ (f : Int) = x := by
  unfold hdsL
  simp only [List.mem_map, List.mem_filter, List.mem_range, decide_eq_true_eq]
  exact ⟨fun ⟨f, ⟨h1, h2⟩, h3⟩ => ⟨f, h1, h2, h3⟩, fun ⟨f, h1, h2, h3⟩ => ⟨f, ⟨h1, h2⟩, h3⟩⟩
theorem hdsL_len (s : Sch) (R : Nat → Prop) (p : Pc) : (hdsL s R p).length ≤ s.funs.length := by
  unfold hdsL
  rw [List.length_map]
  exact Nat.le_trans (List.length_filter_le _ _) (by simp)
structure HeaQ (s : Sch) (a b : Int) (q : AV → Prop) : Prop where
  no : ¬ SOk s → q (.tup [.e0, I 7])
  out : SOk s → atS s a b = none → q (.tup [.e0, I 2])
  yes : SOk s → ∀ bl p, IsR s bl → okP s p → a = (p.1 : Nat) → b = (p.2 : Nat) → q (.tup [.rs 1 (iels (hdsL s (Rb bl) p)), I 0])
theorem atS_some {s : Sch} {a b : Int} {t : Tm} (h : atS s a b = some t) : ∃ p : Pc, okP s p ∧ a = (p.1 : Nat) ∧ b = (p.2 : Nat) := by
  unfold atS at h
  split at h
  · rename_i hc
    obtain ⟨c1, c2, c3, c4⟩ := hc
    obtain ⟨f, rfl⟩ : ∃ f : Nat, a = f := ⟨a.toNat, by omega⟩
    obtain ⟨i, rfl⟩ : ∃ i : Nat, b = i := ⟨b.toNat, by omega⟩
    rw [Int.toNat_natCast] at c4
    exact ⟨(f, i), ⟨by show f < s.funs.length; omega, by show i < (s.funs.getD f default).body.nodes; omega⟩, rfl, rfl⟩
  · cases h
theorem flow_Heads_c (s : Sch) (a b : Int) (Sm : SOk s → Small s) {h : Heap} {Q : AV → Heap → Prop} (hq : HeaQ s a b fun x => Q x h) : ACalls prog n_flow_Heads [sm s, .agg [I a, I b]] h Q := by
  refine flow_Heads_call ?_
  unfold flow_Heads sm
  simp only [w_agg, List.length_cons, List.length_nil, true_and, g_0, g_1]
  refine callS_of (scheme_Check_c s ?_)
  by_cases H : SOk s
  case neg =>
    have e : schB s = false := by
      cases h : schB s with
      | false => rfl
      | true => exact absurd ((schB_iff s).1 h) H
    rw [e, w_neq, w_brA]
    simp only [Bool.false_eq_true, if_false, show ¬ ((7 : Int) = 0) by omega, decide_false, Bool.not_false, if_true]
    exact retA_of (hq.no H)
  rw [if_pos ((schB_iff s).2 H), w_neq, w_brA]
  simp only [decide_true, Bool.not_true, Bool.false_eq_true, if_false]
  rw [sm_eta]
  refine callS_of (flow_at_c H a b ?_)
  cases hat : atS s a b with
  | none =>
    refine tp0 (tp1 ?_)
    simp only [w_notA, Bool.not_false, w_brA, if_true]
    exact retA_of (hq.out H hat)
  | some t =>
  refine tp0 (tp1 ?_)
  simp only [w_notA, Bool.not_true, w_brA, Bool.false_eq_true, if_false]
  obtain ⟨p, hp, rfl, rfl⟩ := atS_some hat
  refine callS_of (analyse_c H (Sm H) false fun bl1 σ1 l1 h1 hbl1 R1 r1 => ?_)
  refine tp0 (tp1 ?_)
  simp only [w_notA, Bool.not_true, w_brA, Bool.false_eq_true, if_false]
  refine callS_of (analyse_c H (Sm H) true fun bl σ l h2 hbl R r => ?_)
  refine tp0 (tp1 ?_)
  have hy := hq.yes H bl p hbl hp rfl rfl
  have sub2 : ∀ j n, h j = some n → h2 j = some n := fun j n hj => R.fr j n (R1.fr j n hj)
  have xa : h2 (l .pa) = some (.arr 10 [paC s bl σ l]) := R.own .pa _ rfl
  refine rdP (x := .mp (l .mh)) xa (by omega) rfl ?_
  have xm : h2 (l .mh) = some (mpN σ.bg fun p => .mp (l (.hm p))) := R.own .mh _ rfl
  have hpb : p ∈ σ.bg := (r.bg p).2 ⟨hp, .inr rfl⟩
  refine look_c (k := p) xm ?_
  rw [if_pos hpb]
  have hh : h2 (l (.hm p)) = some (mpN (pick σ.hl p) fun _ => B true) := R.own (.hm p) _ (by simp only [conS, hpb, if_true])
  have hn : (pick σ.hl p).Nodup := pick_nodup r.ok.hln p
  generalize l (.hm p) = id at *
  have hks : ∀ y, y ∈ pick σ.hl p ↔ FlP s (Rb bl) false p y := fun y => by rw [mem_pick]; exact r.hl p y hpb
  have hkl : (pick σ.hl p).length ≤ 576 := Nat.le_trans (List.Nodup.length_le_of_subset hn fun y hy => by
    obtain ⟨_, h2, h3, _⟩ := (((hks y).1 hy).typed H).1 rfl
    exact mem_allHd.2 ⟨h2, h3⟩) (allHd_len H)
  generalize pick σ.hl p = ks at *
  clear R R1 xa xm r1
  refine range_c hh fun it hit => ?_
  have hid : id ≠ it := fun e => by subst e; rw [hit] at hh; cases hh
  refine loop_down (fun m σ' h' => ∃ left cur ps x, m = left.length ∧ left.Nodup ∧ (∀ i, i ∈ left → i < ks.length) ∧ (∀ p, p ∈ ps ↔ ∃ i, ∃ hi : i < ks.length, i ∉ left ∧ ks[i] = p) ∧ ps.Nodup ∧ σ' = [x] ∧ h' it = some (.iter id ks.length left cur) ∧ Ow (h2.set it (.iter id ks.length left cur)) h' 1 (iels (ps.map fun y => (y.1 : Int))) x ∧ Fr h2 h') ks.length
    ⟨List.range ks.length, none, [], .e0, by simp, List.nodup_range, by simp, fun p => ⟨fun h => by (cases h), fun ⟨i, hi, hn, _⟩ => absurd (List.mem_range.2 hi) hn⟩, by simp, rfl, Heap.set_same _ _ _, .inl ⟨rfl, rfl⟩, fun j n hj => ?_⟩ ?_
  · rw [Heap.set_ne]; exact hj
    rintro rfl; rw [hit] at hj; cases hj
  rintro m σ' h' K ⟨left, cur, ps, x, rfl, hnd, hlt, hps, hpn, rfl, hi, ho, hf⟩ hK
  have hpl : ps.length ≤ ks.length := List.Nodup.length_le_of_subset hpn fun p hp => by
    obtain ⟨i, hi, _, e⟩ := (hps p).1 hp
    exact e ▸ List.getElem_mem hi
  refine next_c hi (hf _ _ hh) hlt (fun hle => ?_) fun i hil him => ?_
  · subst hle
    refine tp0 ?_
    simp only [w_brA, Bool.false_eq_true, if_false, g_0]
    have hmem : ∀ y, y ∈ ps ↔ y ∈ ks := fun y => by
      rw [hps]
      exact ⟨fun ⟨i, hi, _, e⟩ => e ▸ List.getElem_mem hi, fun hp => by
        obtain ⟨i, hi, e⟩ := List.mem_iff_getElem.1 hp
        exact ⟨i, hi, by simp, e⟩⟩
    obtain ⟨zs, hzs⟩ : ∃ zs, zs = ps.map fun y => (y.1 : Int) := ⟨_, rfl⟩
    rw [← hzs] at ho
    have hzl : zs.length = ps.length := by rw [hzs]; simp
    have hfr : fr zs = hdsL s (Rb bl) p := by
      obtain ⟨f1, f2⟩ := fr_spec zs
      refine SS.ext f1 (hdsL_SS _ _ _) fun x => ?_
      rw [f2, hdsL_mem, hzs, List.mem_map]
      constructor
      · rintro ⟨y, hy, rfl⟩
        have hF := (hks y).1 ((hmem y).1 hy)
        obtain ⟨_, t2, _⟩ := (hF.typed H).1 rfl
        exact ⟨y.1, t2, ⟨y.2, hF⟩, rfl⟩
      · rintro ⟨f, _, ⟨k, hF⟩, rfl⟩
        exact ⟨(f, k), (hmem _).2 ((hks _).2 hF), rfl⟩
    rw [← hfr] at hy
    unfold fr at hy
    rcases ho with ⟨he, rfl⟩ | ⟨hne, id2, rfl, h1, h2'⟩
    · have : zs = [] := by
        have := congrArg List.length he
        rw [iels_len] at this
        exact List.eq_nil_of_length_eq_zero this
      rw [this] at hy
      refine callS_of (sort_nil (callS_of (compact_nil ?_)))
      have e0 : Lib.compact (([] : List Int).mergeSort fun x y => decide (x ≤ y)) = [] := by simp [Lib.compact, Lib.compactUpTo]
      rw [e0] at hy
      exact retA_wk (Ref.tups (.cons .e0 (.cons .refl .nil))) (HRef.sub fun j n hj => hf j n (sub2 j n hj)) hy
    · obtain ⟨n1, n2⟩ := set_none h2'
      rw [iels_len]
      refine callS_of (sort_c (zs := zs) h1 (by omega) ?_)
      have e2 : zs.length = (zs.mergeSort fun x y => decide (x ≤ y)).length := by simp
      generalize (zs.mergeSort fun x y => decide (x ≤ y)) = ws at *
      have hcl := Lib.compact_length_le ws
      rw [e2]
      refine callS_of (compact_c (zs := ws) (Heap.set_same _ id2 _) (by omega) ?_ hcl)
      rw [Heap.set_set]
      have hid2 : h id2 = none := by
        cases e : h id2 with
        | none => rfl
        | some n => rw [sub2 id2 n e] at n2; cases n2
      refine retA_wk (Ref.tups (.cons (y := .rs 1 (iels (Lib.compact ws))) (.frz (Heap.set_same _ id2 _) hid2 ?_ ?_ ?_ ?_) (.cons .refl .nil))) (HRef.sub fun j n hj => ?_) hy
      · rw [iels_len, List.length_append]; omega
      · rw [iels_len]
      · exact fun a ha => iels_sz _ a (by rw [iels_len]; exact ha)
      · intro a b ha hb
        obtain rfl : b = 0 := by omega
        have : (iels (Lib.compact ws ++ List.replicate (ws.length - (Lib.compact ws).length) 0)).getD a [] = (iels (Lib.compact ws)).getD a [] := by
          have e : iels (Lib.compact ws ++ List.replicate (ws.length - (Lib.compact ws).length) 0) = iels (Lib.compact ws) ++ iels (List.replicate (ws.length - (Lib.compact ws).length) 0) := by simp [iels]
          rw [e, List.getD_eq_getElem?_getD, List.getElem?_append_left (by rw [iels_len]; exact ha), List.getD_eq_getElem?_getD]
        rw [this]; exact .refl
      · rw [Heap.set_ne]; exact hf j n (sub2 j n hj)
        rintro rfl; rw [hid2] at hj; cases hj
  · refine tp0 ?_
    simp only [w_brA, if_true]
    have hf2 : (h'.set it (.iter id ks.length (left.erase i) (some i))) id = some (mpN ks fun _ => B true) := by rw [Heap.set_ne hid]; exact hf _ _ hh
    refine entry_c (Heap.set_same _ _ _) hf2 hil ?_
    refine tp0 ?_
    simp only [w_agg, List.length_cons, List.length_nil, true_and, g_0, g_1]
    rw [w_one_v]
    have ho2 : Ow (h2.set it (.iter id ks.length (left.erase i) (some i))) (h'.set it (.iter id ks.length (left.erase i) (some i))) 1 (iels (ps.map fun y => (y.1 : Int))) x := ho.to fun id' a b => by
      have : id' ≠ it := fun e => by subst e; rw [hi] at a; cases a
      exact ⟨by rw [Heap.set_ne this]; exact a, by rw [Heap.set_ne this] at b ⊢; exact b⟩
    refine ho2.app (by simp) (fun j n hj => ?_) (by simp [iels]; omega) fun x2 h3 o2 f2 _ => ?_
    · by_cases e : j = it
      · subst e; rw [Heap.set_same] at hj ⊢; exact hj
      · rw [Heap.set_ne e] at hj ⊢; exact hf j n hj
    have hnot : ks[i] ∉ ps := fun h => by
      obtain ⟨j, hj, hjl, e⟩ := (hps _).1 h
      have := (List.getElem_inj hn).1 e
      subst this; exact hjl him
    refine hK (left.erase i).length [x2] h3 (by rw [List.length_erase_of_mem him]; have := List.length_pos_of_mem him; omega) ⟨left.erase i, some i, ps ++ [ks[i]], x2, rfl, hnd.erase i, fun j hj => hlt j (List.mem_of_mem_erase hj), fun p => ?_, ?_, rfl, f2 _ _ (Heap.set_same _ _ _), by simpa [iels] using o2, fun j n hj => ?_⟩
    · rw [List.mem_append, hps, List.mem_singleton]
      constructor
      · rintro (⟨j, hj, hn, e⟩ | rfl)
        · exact ⟨j, hj, fun h => hn (List.mem_of_mem_erase h), e⟩
        · exact ⟨i, hil, fun h => ((hnd.mem_erase_iff).1 h).1 rfl, rfl⟩
      · rintro ⟨j, hj, hn, e⟩
        by_cases e2 : j = i
        · subst e2; exact .inr e.symm
        · exact .inl ⟨j, hj, fun h => hn ((List.mem_erase_of_ne e2).2 h), e⟩
    · rw [List.nodup_append]
      exact ⟨hpn, by simp, fun a ha b hb => by
        have : b = ks[i] := by simpa using hb
        subst this; rintro rfl; exact hnot ha⟩
    · refine f2 j n ?_
      rw [Heap.set_ne]; exact hj
      rintro rfl; rw [hit] at hj; cases hj
def headsC (s : Sch) (D : Pc → List Pc) : AV := .rs 1 ((List.range s.funs.length).map fun f => [.rs 1 ((List.range (nN s f)).map fun i => [.rs 2 ((D (f, i)).map plC)])])
def KH (s : Sch) (D F : Pc → List Pc) : List AV := [.rs 2 (syCs s.syms), .rs 5 (fnCs s.funs), .rs 1 (NR s), headsC s D, flowC s F]
theorem headsC_get {s : Sch} (D : Pc → List Pc) {f : Nat} (hf : f < s.funs.length) : ((List.range s.funs.length).map fun f => [AV.rs 1 ((List.range (nN s f)).map fun i => [.rs 2 ((D (f, i)).map plC)])]).getD f [] = [.rs 1 ((List.range (nN s f)).map fun i => [.rs 2 ((D (f, i)).map plC)])] := by
  simp [List.getD_eq_getElem?_getD, hf]
theorem vref19_known_h {s : Sch} (H : SOk s) (Sm : Small s) {h : Heap} {Q : AV → Heap → Prop} (hq : ∀ bl D F, IsR s bl → IsFlow s bl F → (∀ p y, y ∈ D p ↔ FlP s (Rb bl) false p y) → (∀ p, (D p).length ≤ 576) → Q (.ro (KH s D F)) h) : ACalls prog n_vref19_known [sm s] h Q :=
  ACalls.wk1 (vref19_known_c H Sm fun bl σ l h1 hbl kr R => by
    have hF : IsFlow s bl σ.cm := ⟨fun k p => ⟨kr.inv.sc k p, kr.cm k p⟩, fun k => ⟨σ.cm k, (kr.inv.cs k).2, (kr.inv.cs k).eq.symm⟩⟩
    have hpa : conK s σ l .pa = some (.arr 5 [[.rs 2 (syCs s.syms), .rs 5 (fnCs s.funs), .rs 1 (NR s), .rs 1 (HR s l), .rs 1 (CR s l)]]) := rfl
    refine ⟨_, h, .fro (R.own .pa _ hpa) (R.new .pa _ hpa) (by simp) (by simp [KH]) fun j hj => ?_, HRef.sub R.fr, hq bl σ.hd σ.cm hbl hF (fun p y => ⟨kr.inv.sh p y, kr.hd p y⟩) fun p => kr.inv.hd_le H p⟩
    have hj5 : j < 5 := hj
    match j, hj5 with
    | 0, _ => exact .refl
    | 1, _ => exact .refl
    | 2, _ => exact .refl
    | 3, _ =>
      show Ref h1 h (.rs 1 (HR s l)) (headsC s σ.hd)
      unfold headsC
      refine .rs (by simp [HR]) (fun i hi => ?_) fun i j hi hj => ?_
      · have h1 : i < s.funs.length := by rwa [HR_len] at hi
        rw [headsC_get σ.hd h1]; rfl
      · have h1 : i < s.funs.length := by rwa [HR_len] at hi
        obtain rfl : j = 0 := by omega
        rw [HR_get h1, headsC_get σ.hd h1, g_0, g_0]
        have hc : conK s σ l (.cs i) = some (.arr 1 ((List.range (nN s i)).map fun j => [hV σ l (i, j)])) := by simp only [conK, h1, if_true]
        refine .frz (R.own _ _ hc) (R.new _ _ hc) (by simp) (by simp) (fun j hj => ?_) fun j k hj hk => ?_
        · have hj' : j < nN s i := hj
          simp [List.getD_eq_getElem?_getD, hj']
        · have hj' : j < nN s i := hj
          obtain rfl : k = 0 := by omega
          have e1 : ((List.range (nN s i)).map fun j => [hV σ l (i, j)]).getD j [] = [hV σ l (i, j)] := by simp [List.getD_eq_getElem?_getD, hj']
          have e2 : ((List.range (nN s i)).map fun j => [AV.rs 2 ((σ.hd (i, j)).map plC)]).getD j [] = [.rs 2 ((σ.hd (i, j)).map plC)] := by simp [List.getD_eq_getElem?_getD, hj']
          rw [e1, e2, g_0, g_0]
          unfold hV
          by_cases e : σ.hd (i, j) = []
          · rw [if_pos e, e]; exact .e0
          · rw [if_neg e]
            have hm : conK s σ l (.hm (i, j)) = some (.arr 2 ((σ.hd (i, j)).map plC)) := by simp only [conK]; rw [if_pos ⟨h1, hj', e⟩]
            refine .frz (R.own _ _ hm) (R.new _ _ hm) (by simp) (by simp) (fun k hk => ?_) fun k m hk hm => .refl
            rw [plC_get hk]; rfl
    | 4, _ =>
      show Ref h1 h (.rs 1 (CR s l)) (flowC s σ.cm)
      unfold flowC
      refine .rs (by simp [CR]) (fun i hi => ?_) fun i j hi hj => ?_
      · have h1 : i < s.funs.length := by rwa [CR_len] at hi
        rw [flowC_get σ.cm h1]; rfl
      · have h1 : i < s.funs.length := by rwa [CR_len] at hi
        obtain rfl : j = 0 := by omega
        rw [CR_get h1, flowC_get σ.cm h1, g_0, g_0]
        have hc : conK s σ l (.tmp i) = some (.arr 1 ((List.range (ar s i)).map fun j => [.rs 2 ((σ.cm (i, j)).map plC)])) := by simp only [conK, h1, if_true]
        refine .frz (R.own _ _ hc) (R.new _ _ hc) (by simp) (by simp) (fun j hj => ?_) fun j k hj hk => .refl
        rw [row_get (fun j => σ.cm (i, j)) hj]; rfl)
theorem rd_KH {s : Sch} {D F : Pc → List Pc} {h : Heap} {K : AV → Prop} (hk : K (flowC s F)) : nilA (.ro (KH s D F)) <| fldA 4 (.ro (KH s D F)) fun p => loadV p h K := by
  rw [w_nil_ro, w_fld_ro]
  show loadV (.ro [flowC s F]) h K
  rw [w_loadV_ro]; exact hk
theorem vref19_places_h {s : Sch} (H : SOk s) (Sm : Small s) {bl : List Bool} {D F : Pc → List Pc} (hF : IsFlow s bl F) {h : Heap} {Q : AV → Heap → Prop} (hq : ∀ n : Nat, n ≤ 64 * (8 * 150) → Q (I (n : Nat)) h) : ACalls prog n_vref19_state_places [.ro (KH s D F)] h Q := by
  have hfew := H.few
  refine vref19_state_places_call ?_
  unfold vref19_state_places
  refine rd_KH ?_
  have hlen : ∀ {K : AV → Prop}, K (I (s.funs.length : Nat)) → lenA (flowC s F) K := fun {K} hk => by
    unfold flowC; rw [w_len_rs, List.length_map, List.length_range]; exact hk
  refine hlen ?_
  refine loop_up s.funs.length (fun f σ' h' => ∃ n : Nat, n ≤ f * (8 * 150) ∧ σ' = [I n, I f] ∧ h' = h) ⟨0, by omega, rfl, rfl⟩ (fun k σ' h' ⟨_, _, e, _⟩ => by rw [e]; rfl) ?_
  rintro f σ' h' K hf ⟨n, hn, rfl, rfl⟩ hK
  simp only [g_0, g_1]
  have hfm : f * (8 * 150) ≤ 64 * (8 * 150) := Nat.mul_le_mul (by omega) (Nat.le_refl _)
  by_cases hlt : f < s.funs.length
  · have hlt' : (f : Int) < s.funs.length := by omega
    have ha8 := ar_le H hlt
    simp only [w_lss, hlt', decide_true, w_brA, if_true]
    refine rd_KH (rd_flow F hlt ?_)
    rw [w_len_rs, List.length_map, List.length_range]
    refine loop_up (ar s f) (fun i σ' h2 => ∃ m : Nat, m ≤ n + i * 150 ∧ σ' = [I m, I i] ∧ h2 = h') ⟨n, by omega, rfl, rfl⟩ (fun k σ' h' ⟨_, _, e, _⟩ => by rw [e]; rfl) ?_
    rintro i σ' h2 K2 hi ⟨m, hm, rfl, rfl⟩ hK2
    simp only [g_0, g_1]
    have him : i * 150 ≤ 8 * 150 := Nat.mul_le_mul (by omega) (Nat.le_refl _)
    by_cases hlt2 : i < ar s f
    · have hlt2' : (i : Int) < (ar s f : Nat) := by omega
      simp only [w_lss, hlt2', decide_true, w_brA, if_true]
      refine rd_row F hlt2 ?_
      have hc := hF.len H Sm (f, i)
      rw [w_len_rs, List.length_map, w_add, w_add, wrap_k (k := i) (by omega), wrap_i64 (by omega) (by omega)]
      refine hK2 hlt2 _ _ ⟨m + (F (f, i)).length, by omega, by simp, rfl⟩
    · have hie : i = ar s f := by omega
      subst hie
      simp only [w_lss, Int.lt_irrefl, decide_false, w_brA, Bool.false_eq_true, if_false]
      rw [w_add, wrap_k (k := f) (by omega)]
      refine hK hlt _ _ ⟨m, by omega, rfl, rfl⟩
  · have hfe : f = s.funs.length := by omega
    subst hfe
    simp only [w_lss, Int.lt_irrefl, decide_false, w_brA, Bool.false_eq_true, if_false]
    exact retA_of (hq n (Nat.le_trans hn hfm))
theorem vref19_Heads_c (s : Sch) (a b : Int) (Sm : SOk s → Small s) {h : Heap} {Q : AV → Heap → Prop} (hq : HeaQ s a b fun x => Q x h) : ACalls prog n_vref19_Heads [sm s, .agg [I a, I b]] h Q := by
  refine vref19_Heads_call ?_
  unfold vref19_Heads sm
  simp only [w_agg, List.length_cons, List.length_nil, true_and, g_0, g_1]
  rw [sm_eta]
  by_cases H : SOk s
  case neg =>
    refine callS_of (vref19_At_no H ?_)
    refine tp0 (tp1 ?_)
    simp only [w_agg, List.length_cons, List.length_nil, true_and, w_neq, show ¬ ((7 : Int) = 0) by omega, decide_false, Bool.not_false, w_brA, if_true]
    exact retA_of (hq.no H)
  refine callS_of (vref19_At_c H a b ?_)
  cases hat : atS s a b with
  | none =>
    simp only [atR]
    refine tp0 (tp1 ?_)
    simp only [w_agg, List.length_cons, List.length_nil, true_and, w_neq, show ¬ ((2 : Int) = 0) by omega, decide_false, Bool.not_false, w_brA, if_true]
    exact retA_of (hq.out H hat)
  | some t =>
  simp only [atR]
  refine tp0 (tp1 ?_)
  rw [← tm_eta]
  simp only [w_agg, List.length_cons, List.length_nil, true_and, w_neq, decide_true, Bool.not_true, w_brA, Bool.false_eq_true, if_false]
  obtain ⟨p, hp, rfl, rfl⟩ := atS_some hat
  have hfew := H.few
  refine callS_of (vref19_known_h H (Sm H) fun bl D F hbl hF hD hDl => ?_)
  refine callS_of (vref19_places_h H (Sm H) hF fun n hn => ?_)
  have : ¬ (200000 : Int) < n := by omega
  rw [w_gtr]
  simp only [this, decide_false, w_brA, Bool.false_eq_true, if_false, w_len_rs, fnCs_len]
  have hy := hq.yes H bl p hbl hp rfl rfl
  let hasF : Nat → Bool := fun f => (D p).any fun y => decide (y.1 = f)
  have hls : hdsL s (Rb bl) p = ((List.range s.funs.length).filter hasF).map (fun f : Nat => (f : Int)) := by
    unfold hdsL
    refine congrArg (List.map (fun f : Nat => (f : Int))) (List.filter_congr fun f hf => ?_)
    show _ = (D p).any fun y => decide (y.1 = f)
    have e1 : (@decide (hdP s (Rb bl) p f) (Classical.propDecidable _) = true) ↔ hdP s (Rb bl) p f := @decide_eq_true_iff _ (Classical.propDecidable _)
    rw [Bool.eq_iff_iff, e1, List.any_eq_true]
    constructor
    · rintro ⟨k, hk⟩; exact ⟨(f, k), (hD p _).2 hk, by simp⟩
    · rintro ⟨y, hy, e⟩
      have : y.1 = f := by simpa using e
      subst this
      exact ⟨y.2, (hD p y).1 hy⟩
  let out : Nat → List Int := fun f => ((List.range f).filter hasF).map (fun f : Nat => (f : Int))
  have hol : ∀ f, (out f).length ≤ f := fun f => by
    simp only [out, List.length_map]
    exact Nat.le_trans (List.length_filter_le _ _) (by simp)
  have hos : ∀ f, out (f + 1) = out f ++ if hasF f = true then [(f : Int)] else [] := fun f => by
    simp only [out, List.range_succ, List.filter_append, List.map_append]
    congr 1
    by_cases c : hasF f = true
    · rw [if_pos c]; simp [c]
    · rw [if_neg c]
      have : hasF f = false := by simpa using c
      simp [this]
  refine loop_up s.funs.length (fun f σ' h' => ∃ x, σ' = [x, I f] ∧ SlO 1 (iels (out f)) h x h') ⟨.e0, rfl, by simp [out, iels]; exact SlO.nil 1⟩ (fun k σ' h' ⟨_, e, _⟩ => by rw [e]; rfl) ?_
  rintro f σ' h' K hf ⟨x, rfl, hs⟩ hK
  simp only [g_0, g_1]
  by_cases hlt : f < s.funs.length
  case neg =>
    have : f = s.funs.length := by omega
    subst this
    simp only [w_lss, Int.lt_irrefl, decide_false, w_brA, Bool.false_eq_true, if_false]
    obtain ⟨r1, r2⟩ := hs.wk (iels_sz _)
    rw [hls] at hy
    exact retA_wk (Ref.tups (.cons r1 (.cons .refl .nil))) r2 hy
  have hlt' : (f : Int) < s.funs.length := by omega
  simp only [w_lss, hlt', decide_true, w_brA, if_true]
  rw [w_nil_ro, w_fld_ro]
  show loadV (.ro [headsC s D, flowC s F]) h' _
  rw [w_loadV_ro]
  unfold headsC
  refine ix_rs (by simpa using hp.1) (headsC_get D hp.1) ?_
  rw [w_loadV_ro]
  have hp2 : p.2 < nN s p.1 := hp.2
  refine ix_rs (cs := [.rs 2 ((D p).map plC)]) (by simpa using hp2) (by simp [List.getD_eq_getElem?_getD, hp2]) ?_
  rw [w_loadV_ro, w_len_rs, List.length_map]
  have hDp := hDl p
  refine loop_up (D p).length (fun j σ' h2 => σ' = [B (((D p).take j).any fun y => decide (y.1 = f)), I j] ∧ h2 = h') ⟨rfl, rfl⟩ (fun k σ' h' ⟨e, _⟩ => by rw [e]; rfl) ?_
  rintro j σ' h2 K2 hj ⟨rfl, rfl⟩ hK2
  simp only [g_0, g_1]
  by_cases hlt2 : j < (D p).length
  · have hlt2' : (j : Int) < (D p).length := by omega
    simp only [w_lss, hlt2', decide_true, w_brA, if_true]
    refine ix_rs (by simpa using hlt2) (plC_get hlt2) ?_
    rw [w_loadG_ro]
    refine ⟨by simp, ?_⟩
    simp only [List.drop_zero, g_0, g_1, w_add, wrap_k (k := j) (show j ≤ 4611686018427387904 by omega), w_eql]
    have et : ((D p).take (j + 1)).any (fun y => decide (y.1 = f)) = (((D p).take j).any (fun y => decide (y.1 = f)) || decide ((D p)[j].1 = f)) := by
      rw [List.take_succ_eq_append_getElem hlt2, List.any_append]; simp
    split
    · rename_i ht
      refine hK2 hlt2 _ _ ⟨?_, rfl⟩
      rw [et, ht]; rfl
    · rename_i ht
      refine hK2 hlt2 _ _ ⟨?_, rfl⟩
      have ht' : ((D p).take j).any (fun y => decide (y.1 = f)) = false := by rw [Bool.not_eq_true] at ht; exact ht
      rw [et, ht']
      have : decide (((D p)[j].1 : Int) = (f : Int)) = decide ((D p)[j].1 = f) := by congr 1; apply propext; omega
      rw [this]; rfl
  · have hje : j = (D p).length := by omega
    subst hje
    simp only [w_lss, Int.lt_irrefl, decide_false, w_brA, Bool.false_eq_true, if_false, List.take_length]
    have hof := hol f
    by_cases c : hasF f = true
    · have c' : ((D p).any fun y => decide (y.1 = f)) = true := c
      simp only [c', if_true]
      rw [w_one_v]
      refine hs.app (by simp [iels]; omega) fun x2 h3 hs2 => ?_
      rw [w_add, wrap_k (k := f) (by omega)]
      refine hK hlt _ _ ⟨x2, rfl, ?_⟩
      rw [hos, if_pos c]
      simpa [iels] using hs2
    · have c' : ((D p).any fun y => decide (y.1 = f)) = false := by rw [Bool.not_eq_true] at c; exact c
      simp only [c', Bool.false_eq_true, if_false]
      rw [w_add, wrap_k (k := f) (by omega)]
      refine hK hlt _ _ ⟨x, rfl, ?_⟩
      rw [hos, if_neg c, List.append_nil]
      exact hs
theorem vlaw19_ints_c (l : List Int) (hl : l.length ≤ 1000000) {h : Heap} {Q : AV → Heap → Prop} (hq : Q (B true) h) : ACalls prog n_vlaw19_ints [.rs 1 (iels l), .rs 1 (iels l)] h Q := by
  refine vlaw19_ints_call ?_
  unfold vlaw19_ints
  simp only [w_len_rs, iels_len, w_neq, w_brA, decide_true, Bool.not_true, Bool.false_eq_true, if_false]
  refine loop_ix l.length (fun _ => True) trivial fun k hk _ K hK => ?_
  by_cases hlt : k < l.length
  · have hlt' : (k : Int) < l.length := by omega
    simp only [g_0, w_lss, hlt', decide_true, w_brA, if_true]
    refine ix_rs (by rw [iels_len]; exact hlt) (iels_get l hlt) ?_
    rw [w_loadV_ro]
    refine ix_rs (by rw [iels_len]; exact hlt) (iels_get l hlt) ?_
    rw [w_loadV_ro]
    simp only [g_0, w_neq, w_brA, decide_true, Bool.not_true, Bool.false_eq_true, if_false]
    rw [w_add, wrap_k (k := k) (by omega)]
    exact hK hlt trivial
  · have hkn : k = l.length := by omega
    subst hkn
    simp only [g_0, w_lss, Int.lt_irrefl, decide_false, w_brA, Bool.false_eq_true, if_false]
    exact retA_of hq
theorem vlaw19_ints_e {h : Heap} {Q : AV → Heap → Prop} (hq : Q (B true) h) : ACalls prog n_vlaw19_ints [.e0, .e0] h Q := by
  refine vlaw19_ints_call ?_
  unfold vlaw19_ints
  simp only [w_len_e, w_neq, w_brA, decide_true, Bool.not_true, Bool.false_eq_true, if_false]
  refine loop_ix 0 (fun _ => True) trivial fun k hk _ K hK => ?_
  have hkn : k = 0 := by omega
  subst hkn
  simp only [g_0, w_lss]
  rw [show (decide (((0 : Nat) : Int) < 0)) = false from rfl, w_brA]
  simp only [Bool.false_eq_true, if_false]
  exact retA_of hq
theorem law_FlowHeads (s : Sch) (p : Int × Int) {h : Heap} {Q : AV → Heap → Prop} (hq : ∀ h, Q (B true) h) : ACalls prog n_vlaw19_FlowHeads [sm s, plI p] h Q := by
  obtain ⟨a, b⟩ := p
  have al : ∀ {h : Heap}, callS prog n_vlaw19_alive [] h fun r h => retA r h Q := fun {h} => callS_of (vlaw19_alive_c (retA_of (hq h)))
  refine vlaw19_FlowHeads_call ?_
  unfold vlaw19_FlowHeads sm plI
  simp only [w_agg, List.length_cons, List.length_nil, true_and, g_0, g_1]
  rw [sm_eta]
  refine callS_of (vlaw19_heavy_c s (fun _ _ => ?_) fun hsm => ?_)
  · simp only [w_brA, if_true]
    exact al
  simp only [w_brA, Bool.false_eq_true, if_false]
  refine callS_of (flow_Heads_c s a b hsm ⟨fun H => ?_, fun H h1 => ?_, fun H bl q hbl hp e1 e2 => ?_⟩)
  · refine tp0 (tp1 (callS_of (vref19_Heads_c s a b hsm ⟨fun _ => ?_, fun H' => absurd H' H, fun H' => absurd H' H⟩)))
    refine tp0 (tp1 ?_)
    simp only [w_eql, decide_true, w_brA, if_true]
    refine callS_of (vlaw19_ints_e ?_)
    simp only [w_brA, if_true]
    exact al
  · refine tp0 (tp1 (callS_of (vref19_Heads_c s a b hsm ⟨fun H' => absurd H H', fun _ _ => ?_, fun _ bl q _ hp e1 e2 => ?_⟩)))
    · refine tp0 (tp1 ?_)
      simp only [w_eql, decide_true, w_brA, if_true]
      refine callS_of (vlaw19_ints_e ?_)
      simp only [w_brA, if_true]
      exact al
    · rw [e1, e2, atS_ok hp] at h1; cases h1
  · refine tp0 (tp1 (callS_of (vref19_Heads_c s a b hsm ⟨fun H' => absurd H H', fun _ h1 => ?_, fun _ bl' q' hbl' hp' e1' e2' => ?_⟩)))
    · rw [e1, e2, atS_ok hp] at h1; cases h1
    · have := hbl.unique hbl'
      subst this
      have : q = q' := Prod.ext (by omega) (by omega)
      subst this
      refine tp0 (tp1 ?_)
      simp only [w_eql, decide_true, w_brA, if_true]
      have hl := hdsL_len s (Rb bl) q
      have hfew := H.few
      refine callS_of (vlaw19_ints_c _ (by omega) ?_)
      simp only [w_brA, if_true]
      exact al
end Am
