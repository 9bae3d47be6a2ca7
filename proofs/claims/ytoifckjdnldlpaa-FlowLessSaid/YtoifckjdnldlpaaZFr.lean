/- small, heavy; lent arguments; FlowLess answers true. -/
import Derived.Test.YtoifckjdnldlpaaZFq
import Derived.Test.YtoifckjdnldlpaaZFX
import Derived.Test.YtoifckjdnldlpaaZM6
set_option linter.unusedVariables false
set_option linter.unusedSimpArgs false
namespace Am
open Go Go.Proofs.Try
def hE : Heap := fun _ => none
theorem ACalls.lend {P : Program} {f : FuncId} {args args' : List AV} {h : Heap} {Q : AV → Heap → Prop} (hr : Refs h hE args args') (hk : ACalls P f args' hE fun r _ => ∃ v, plain v = true ∧ r = .val v ∧ Q r h) : ACalls P f args h Q := by
  refine ⟨hk.1, fun w C vs H hs hrep => ?_⟩
  have hh : HRef h hE := fun i n hi => by cases hi
  have E1 := HRef.sound H hh
  refine (hk.2 w _ vs E1.rel (by rw [hr.len]; exact hs) fun j hj => (hr.get j).sound H (hrep j (by rw [← hr.len]; exact hj))).mono fun e w' ⟨v, C', h2, r, he, E2, hv, u, hu, hru, hq⟩ => ?_
  subst hru
  have hfr : ∀ b, b < w.heap.size → w'.heap[b]? = w.heap[b]? := fun b hb => E2.frame b hb fun ⟨id, n, o, h1, _⟩ => by cases h1
  refine ⟨v, C, h, .val u, he, ⟨fun _ _ h => h, fun _ h => h, fun _ h => .inl h, fun _ h => .inl h, fun b hb _ => hfr b hb, E2.size, E2.os, E2.tape, E2.output, ⟨H.inj, fun i n hi => ?_, fun b hb => Nat.lt_of_lt_of_le (H.imlt b hb) E2.size, H.fresh⟩⟩, ?_, hq⟩
  · obtain ⟨o, h1, h2, h3⟩ := H.own i n hi
    refine ⟨o, h1, h2, h3.mono (fun x v hr => Rep.mono (fun _ _ h => h) (fun b hb => ⟨hb, hfr b (H.imlt b hb)⟩) hr) (hfr _ h3.blk_lt)⟩
  · have := rep_val hv
    subst this
    exact .val hu
def totN (l : List Fn) : Nat := (l.map fun f => min f.body.nodes 401).sum
theorem vlaw19_small_c (s : Sch) (hl : s.funs.length ≤ 64) {h : Heap} {Q : AV → Heap → Prop} (hq : Q (B (decide (totN s.funs ≤ 150))) h) : ACalls prog n_vlaw19_small [sm s] h Q := by
  refine vlaw19_small_call ?_
  unfold vlaw19_small sm
  simp only [w_agg, List.length_cons, List.length_nil, true_and, g_0, g_1, w_len_rs, fnCs_len]
  have hb : ∀ k, k ≤ s.funs.length → totN (s.funs.take k) ≤ k * 401 := fun k => by
    induction k with
    | zero => intro _; simp [totN]
    | succ k ih =>
      intro hk
      have := ih (by omega)
      rw [List.take_succ_eq_append_getElem (by omega)]
      simp only [totN, List.map_append, List.map_cons, List.map_nil, List.sum_append, List.sum_cons, List.sum_nil] at this ⊢
      omega
  refine loop_up s.funs.length (fun k σ h' => σ = [I (totN (s.funs.take k) : Nat), I k] ∧ h' = h) ⟨rfl, rfl⟩ (fun k σ' h' ⟨e, _⟩ => by rw [e]; rfl) ?_
  rintro k σ h' K hk ⟨rfl, rfl⟩ hK
  simp only [g_0, g_1]
  by_cases hlt : k < s.funs.length
  · have hlt' : (k : Int) < s.funs.length := by omega
    simp only [w_lss, hlt', decide_true, w_brA, if_true]
    refine ix_rs (by rw [fnCs_len]; exact hlt) (fnCs_get hlt) ?_
    rw [fnC, w_loadG_ro]
    refine ⟨by simp, callS_of ?_⟩
    simp only [g_2, g_3, g_4]
    rw [tm_eta]
    refine vref02_Nodes_c _ (m := 400) (by omega) ?_
    have h1 := hb k hk
    have h3 : k * 401 ≤ 64 * 401 := Nat.mul_le_mul (by omega) (Nat.le_refl _)
    have h2 : totN (s.funs.take (k + 1)) = totN (s.funs.take k) + min s.funs[k].body.nodes 401 := by
      rw [List.take_succ_eq_append_getElem hlt]
      simp only [totN, List.map_append, List.map_cons, List.map_nil, List.sum_append, List.sum_cons, List.sum_nil, Nat.add_zero]
    rw [w_add, w_add, wrap_k (k := k) (by omega), wrap_i64 (by omega) (by omega)]
    refine hK hlt _ _ ⟨?_, rfl⟩
    rw [h2]; simp
  · have hkn : k = s.funs.length := by omega
    subst hkn
    simp only [w_lss, Int.lt_irrefl, decide_false, w_brA, Bool.false_eq_true, if_false, w_leq]
    rw [List.take_length]
    refine retA_of ?_
    have : decide (((totN s.funs : Nat) : Int) ≤ 150) = decide (totN s.funs ≤ 150) := by congr 1; apply propext; omega
    rw [this]; exact hq
theorem allPl_len (s : Sch) : (allPl s).length = (s.funs.map fun f => f.body.nodes).sum := by
  have : ∀ (l : List Nat), (l.flatMap fun f => (List.range (s.funs.getD f default).body.nodes).map fun i => (f, i)).length = (l.map fun f => (s.funs.getD f default).body.nodes).sum := fun l => by
    induction l with
    | nil => rfl
    | cons f l ih => simp only [List.flatMap_cons, List.length_append, List.length_map, List.length_range, List.map_cons, List.sum_cons, ih]
  rw [allPl, this]
  congr 1
  refine List.ext_getElem (by simp) fun i h1 h2 => ?_
  have hi : i < s.funs.length := by simpa using h1
  simp [List.getD_eq_getElem?_getD, hi]
theorem tot_small {s : Sch} (H : SOk s) : totN s.funs ≤ 150 ↔ Small s := by
  have : totN s.funs = (allPl s).length := by
    rw [allPl_len]
    unfold totN
    congr 1
    refine List.map_congr_left fun f hf => ?_
    have := H.body hf
    omega
  rw [this]; rfl
def addF (s : Sch) (f : Fn) : Sch := ⟨s.syms, s.funs ++ [f]⟩
section
variable {s : Sch} {more : Fn}
theorem addF_getD {f : Nat} (hf : f < s.funs.length) : (addF s more).funs.getD f default = s.funs.getD f default := by
  simp [addF, List.getD_eq_getElem?_getD, List.getElem?_append_left hf]
theorem addF_ndS {p : Pc} (hp : p.1 < s.funs.length) : ndS (addF s more) p = ndS s p := by simp only [ndS, addF_getD hp]
theorem addF_ar {f : Nat} (hf : f < s.funs.length) : ar (addF s more) f = ar s f := by simp only [ar, addF_getD hf]
theorem addF_okP {p : Pc} (hp : p.1 < s.funs.length) : okP (addF s more) p ↔ okP s p := by
  simp only [okP, addF_getD hp]
  exact ⟨fun ⟨_, h⟩ => ⟨hp, h⟩, fun ⟨_, h⟩ => ⟨by simp [addF]; omega, h⟩⟩
theorem addF_lab {p : Pc} (hp : p.1 < s.funs.length) : labP (addF s more) p = labP s p := by simp only [labP, addF_ndS hp]
theorem addF_nA {p : Pc} (hp : p.1 < s.funs.length) : nA (addF s more) p = nA s p := by simp only [nA, addF_ndS hp]
theorem addF_arg {p : Pc} (hp : p.1 < s.funs.length) (j : Nat) : argAt (addF s more) p j = argAt s p j := by simp only [argAt, addF_ndS hp]
theorem addF_Rch (H : SOk s) {f : Nat} : Rch (addF s more) f ↔ Rch s f ∧ f < s.funs.length := by
  constructor
  · intro h
    induction h with
    | zero => exact ⟨.zero, H.pos⟩
    | @step f k hf hfl hc ih =>
      obtain ⟨h1, h2⟩ := ih
      rw [addF_getD h2] at hc
      have := H.calls (getD_mem h2) hc
      exact ⟨.step h1 h2 hc, by omega⟩
  · rintro ⟨h, _⟩
    induction h with
    | zero => exact .zero
    | @step f k hf hfl hc ih => exact .step (ih hfl) (by simp [addF]; omega) (by rw [addF_getD hfl]; exact hc)
theorem addF_R (H : SOk s) {bl bl' : List Bool} (hb : IsR s bl) (hb' : IsR (addF s more) bl') {f : Nat} : (f < s.funs.length → (Rb bl' f ↔ Rb bl f)) ∧ (Rb bl' f → f < s.funs.length) := by
  have hlen : (addF s more).funs.length = s.funs.length + 1 := by simp [addF]
  constructor
  · intro hf
    show bl'.getD f false = true ↔ bl.getD f false = true
    rw [hb'.2 f (by omega), hb.2 f hf, addF_Rch H]
    exact ⟨fun h => h.1, fun h => ⟨h, hf⟩⟩
  · intro h
    by_cases hf : f < s.funs.length + 1
    · have := (hb'.2 f (by omega)).1 h
      exact ((addF_Rch H).1 this).2
    · have : bl'.getD f false = false := by
        rw [List.getD_eq_getElem?_getD, List.getElem?_eq_none (by rw [hb'.1, hlen]; omega)]; rfl
      rw [show (Rb bl' f) = (bl'.getD f false = true) from rfl, this] at h; cases h
theorem addF_Fl (H : SOk s) {bl bl' : List Bool} (hb : IsR s bl) (hb' : IsR (addF s more) bl') {b : Bool} {x y : Pc} (h : FlP s (Rb bl) b x y) : FlP (addF s more) (Rb bl') b x y := by
  induction h with
  | @fn p g hp hl => exact .fn ((addF_okP hp.1).2 hp) (by rw [addF_lab hp.1]; exact hl)
  | @var q p h i hq hl hc hh ihc ihh =>
    have hp := ((hc.typed H).2 rfl).2.1
    have := FlP.var (s := addF s more) (R := Rb bl') ((addF_okP hq.1).2 hq) (by rw [addF_lab hq.1]; exact hl) ihc ihh
    rwa [addF_nA hp.1] at this
  | @arg p h j hp hr hh hj ha ih =>
    have hg := ((hh.typed H).1 rfl).2.1
    have := FlP.arg (s := addF s more) (R := Rb bl') ((addF_okP hp.1).2 hp) (((addF_R H hb hb').1 hp.1).2 hr) ih (by rw [addF_nA hp.1]; exact hj) (by rw [addF_ar hg]; exact ha)
    rwa [addF_arg hp.1] at this
theorem addF_lF (H : SOk s) {bl bl' : List Bool} (hb : IsR s bl) (hb' : IsR (addF s more) bl') {b : Bool} {x y : Pc} (h : FlP (addF s more) (Rb bl') b x y) : (b = true → FlP s (Rb bl) true x y) ∧ (b = false → x.1 < s.funs.length → FlP s (Rb bl) false x y) := by
  induction h with
  | @fn p g hp hl => exact ⟨fun h => (by cases h), fun _ hx => .fn ((addF_okP hx).1 hp) (by rw [← addF_lab hx]; exact hl)⟩
  | @var q p h i hq hl hc hh ihc ihh =>
    refine ⟨fun h => (by cases h), fun _ hx => ?_⟩
    have h1 := ihc.1 rfl
    have hp := ((h1.typed H).2 rfl).2.1
    rw [addF_nA hp.1]
    exact .var ((addF_okP hx).1 hq) (by rw [← addF_lab hx]; exact hl) h1 (ihh.2 rfl hp.1)
  | @arg p h j hp hr hh hj ha ih =>
    refine ⟨fun _ => ?_, fun h => (by cases h)⟩
    have hx := (addF_R H hb hb').2 hr
    have h1 := ih.2 rfl hx
    have hg := ((h1.typed H).1 rfl).2.1
    rw [addF_arg hx]
    exact .arg ((addF_okP hx).1 hp) (((addF_R H hb hb').1 hx).1 hr) h1 (by rw [← addF_nA hx]; exact hj) (by rw [← addF_ar hg]; exact ha)
theorem IsFlow.eq {s s' : Sch} {bl bl' : List Bool} {F F' : Pc → List Pc} (h : IsFlow s bl F) (h' : IsFlow s' bl' F') {k : Pc} (hk : ∀ p, FlP s (Rb bl) true k p ↔ FlP s' (Rb bl') true k p) : F k = F' k := by
  obtain ⟨l, hn, e⟩ := h.ord k
  obtain ⟨l', hn', e'⟩ := h'.ord k
  rw [e, e']
  refine srtP_perm ((List.perm_ext_iff_of_nodup hn hn').2 fun p => ?_)
  rw [← srtP_mem (l := l), ← srtP_mem (l := l'), ← e, ← e', h.mem, h'.mem, hk]
theorem addF_small (h : Small (addF s more)) : Small s := by
  unfold Small at *
  rw [allPl_len] at *
  simp only [addF, List.map_append, List.sum_append] at h
  omega
end
theorem flowC_get {s : Sch} (F : Pc → List Pc) {f : Nat} (hf : f < s.funs.length) : ((List.range s.funs.length).map fun f => [AV.rs 1 ((List.range (ar s f)).map fun i => [.rs 2 ((F (f, i)).map plC)])]).getD f [] = [.rs 1 ((List.range (ar s f)).map fun i => [.rs 2 ((F (f, i)).map plC)])] := by
  simp [List.getD_eq_getElem?_getD, hf]
theorem row_get {n : Nat} (F : Nat → List Pc) {i : Nat} (hi : i < n) : ((List.range n).map fun i => [AV.rs 2 ((F i).map plC)]).getD i [] = [.rs 2 ((F i).map plC)] := by
  simp [List.getD_eq_getElem?_getD, hi]
theorem plC_get {l : List Pc} {k : Nat} (hk : k < l.length) : (l.map plC).getD k [] = plC l[k] := by
  simp [List.getD_eq_getElem?_getD, hk]
theorem law_FlowLess (s : Sch) (more : Fn) (hsz : s.funs.length * 80 ≤ 140737488351232) {h : Heap} {Q : AV → Heap → Prop} (hq : ∀ h, Q (B true) h) : ACalls prog 22 [sm s, .agg (fnC more)] h Q := by
  have al : ∀ {h : Heap}, callS prog n_vlaw19_alive [] h fun r h => retA r h Q := fun {h} => callS_of (vlaw19_alive_c (retA_of (hq h)))
  refine vlaw19_FlowLess_call ?_
  unfold vlaw19_FlowLess sm fnC
  simp only [w_agg, List.length_cons, List.length_nil, true_and, g_0, g_1, g_2, g_3, g_4]
  refine (SlO.nil 5).app (ys := fnCs s.funs) (by rw [fnCs_len]; simp; omega) fun x3 h3 o3 => ?_
  refine o3.app (by simp; omega) fun x5 h6 o5 => ?_
  rw [o5.one]
  have eall : [] ++ fnCs s.funs ++ [[S more.name, srC more.sort, I more.body.lab.1, I more.body.lab.2, .rs 3 (tmCs more.body.kids)]] = fnCs (addF s more).funs := by
    simp [addF, fnCs, fnC]
  rw [eall] at o5
  generalize ha : addF s more = all at *
  have hne : all.funs ≠ [] := by rw [← ha]; simp [addF]
  obtain ⟨id, hid, rfl, rfl⟩ : ∃ id, h id = none ∧ x5 = .os id (fnCs all.funs).length ∧ h6 = h.set id (.arr 5 (fnCs all.funs)) := by
    rcases o5 with ⟨he, _, _⟩ | ⟨_, id, a, b, c⟩
    · exact absurd (by simpa [fnCs] using he) hne
    · exact ⟨id, a, b, c⟩
  have hsy : s.syms = all.syms := by rw [← ha]; rfl
  have lent : ∀ z : Heap, z id = none → Ref (h.set id (.arr 5 (fnCs all.funs))) z (.agg [.rs 2 (syCs s.syms), .os id (fnCs all.funs).length]) (sm all) := fun z hz => by
    rw [hsy]
    exact Ref.aggs (.cons .refl (.cons (.frz (Heap.set_same _ _ _) hz (Nat.le_refl _) rfl (fnCs_sz _) fun i j _ _ => .refl) .nil))
  refine callS_of (vref03_Is_c s ?_)
  by_cases H : SOk s
  case neg =>
    have e : schB s = false := by
      cases h : schB s with
      | false => rfl
      | true => exact absurd ((schB_iff s).1 h) H
    rw [e]
    simp only [w_notA, Bool.not_false, w_brA, if_true]
    exact al
  rw [(schB_iff s).2 H]
  simp only [w_notA, Bool.not_true, w_brA, Bool.false_eq_true, if_false]
  refine callS_of (ACalls.lend (args' := [sm all]) (.cons (lent hE rfl) .nil) (vref03_Is_c all ⟨_, rfl, rfl, ?_⟩))
  by_cases H2 : SOk all
  case neg =>
    have e : schB all = false := by
      cases h : schB all with
      | false => rfl
      | true => exact absurd ((schB_iff all).1 h) H2
    rw [e]
    simp only [w_notA, Bool.not_false, w_brA, if_true]
    exact al
  rw [(schB_iff all).2 H2]
  simp only [w_notA, Bool.not_true, w_brA, Bool.false_eq_true, if_false]
  refine callS_of (ACalls.lend (args' := [sm all]) (.cons (lent hE rfl) .nil) (vlaw19_small_c all H2.few ⟨_, rfl, rfl, ?_⟩))
  by_cases Sm : Small all
  case neg =>
    have : ¬ totN all.funs ≤ 150 := mt (tot_small H2).1 Sm
    simp only [this, decide_false, w_notA, Bool.not_false, w_brA, if_true]
    exact al
  have : totN all.funs ≤ 150 := (tot_small H2).2 Sm
  simp only [this, decide_true, w_notA, Bool.not_true, w_brA, Bool.false_eq_true, if_false]
  have Sm1 : Small s := addF_small (more := more) (by rw [ha]; exact Sm)
  refine callS_of (flow_Flow_c H Sm1 fun bl F hb hF => ?_)
  refine tp0 (tp1 ?_)
  refine callS_wk (args' := [sm all]) (.cons (lent h hid) .nil) (HRef.drop hid) (flow_Flow_c H2 Sm fun bl' F' hb' hF' => ?_)
  refine tp0 (tp1 ?_)
  have hlen : all.funs.length = s.funs.length + 1 := by rw [← ha]; simp [addF]
  have hfew := H.few
  unfold flowC
  simp only [w_neq, w_brA, decide_true, Bool.not_true, Bool.false_eq_true, if_false, w_len_rs, List.length_map, List.length_range]
  rw [w_add, wrap_k (k := s.funs.length) (by omega), hlen, w_neq, w_brA]
  simp only [decide_true, Bool.not_true, Bool.false_eq_true, if_false]
  have har : ∀ f, f < s.funs.length → ar all f = ar s f := fun f hf => by rw [← ha]; exact addF_ar hf
  have hFF : ∀ k, k.1 < s.funs.length → F' k = F k := fun k hk => by
    refine hF'.eq hF fun p => ?_
    subst ha
    exact ⟨fun h => (addF_lF H hb hb' h).1 rfl, fun h => addF_Fl H hb hb' h⟩
  refine loop_ix s.funs.length (fun _ => True) trivial fun f hf _ K hK => ?_
  by_cases hlt : f < s.funs.length
  case neg =>
    have : f = s.funs.length := by omega
    subst this
    simp only [g_0, w_lss, Int.lt_irrefl, decide_false, w_brA, Bool.false_eq_true, if_false]
    exact al
  have hlt' : (f : Int) < s.funs.length := by omega
  have har8 := ar_le H hlt
  simp only [g_0, w_lss, hlt', decide_true, w_brA, if_true]
  have ld1 : ∀ {K : AV → Prop}, K (.rs 1 ((List.range (ar s f)).map fun i => [.rs 2 ((F (f, i)).map plC)])) → idxA 1 (.rs 1 ((List.range s.funs.length).map fun f => [AV.rs 1 ((List.range (ar s f)).map fun i => [.rs 2 ((F (f, i)).map plC)])])) (I (f : Nat)) h fun p => loadV p h K := fun {K} hk => by
    refine ix_rs (by simpa using hlt) (flowC_get F hlt) ?_
    rw [w_loadV_ro]; exact hk
  have ld2 : ∀ {K : AV → Prop}, K (.rs 1 ((List.range (ar s f)).map fun i => [.rs 2 ((F (f, i)).map plC)])) → idxA 1 (.rs 1 ((List.range (s.funs.length + 1)).map fun f => [AV.rs 1 ((List.range (ar all f)).map fun i => [.rs 2 ((F' (f, i)).map plC)])])) (I (f : Nat)) h fun p => loadV p h K := fun {K} hk => by
    have := flowC_get (s := all) F' (f := f) (by omega)
    rw [hlen, har f hlt] at this
    refine ix_rs (by simp; omega) this ?_
    rw [w_loadV_ro]
    have e : ((List.range (ar s f)).map fun i => [AV.rs 2 ((F' (f, i)).map plC)]) = (List.range (ar s f)).map fun i => [.rs 2 ((F (f, i)).map plC)] := List.map_congr_left fun i _ => by rw [hFF (f, i) hlt]
    rw [e]; exact hk
  refine ld1 ?_
  rw [w_len_rs]
  refine ld2 ?_
  rw [w_len_rs, w_neq, w_brA]
  simp only [decide_true, Bool.not_true, Bool.false_eq_true, if_false]
  refine ld1 ?_
  simp only [w_len_rs, List.length_map, List.length_range]
  refine loop_ix (ar s f) (fun _ => True) trivial fun i hi _ K2 hK2 => ?_
  by_cases hlt2 : i < ar s f
  case neg =>
    have : i = ar s f := by omega
    subst this
    simp only [g_0, w_lss, Int.lt_irrefl, decide_false, w_brA, Bool.false_eq_true, if_false]
    rw [w_add, wrap_k (k := f) (by omega)]
    exact hK hlt trivial
  have hlt2' : (i : Int) < (ar s f : Nat) := by omega
  simp only [g_0, w_lss, hlt2', decide_true, w_brA, if_true]
  have ld3 : ∀ {K : AV → Prop}, K (.rs 2 ((F (f, i)).map plC)) → idxA 1 (.rs 1 ((List.range (ar s f)).map fun i => [AV.rs 2 ((F (f, i)).map plC)])) (I (i : Nat)) h fun p => loadV p h K := fun {K} hk => by
    refine ix_rs (by simpa using hlt2) (row_get (fun i => F (f, i)) hlt2) ?_
    rw [w_loadV_ro]; exact hk
  refine ld1 (ld3 ?_)
  rw [w_len_rs]
  refine ld2 (ld3 ?_)
  rw [w_len_rs, w_neq, w_brA]
  simp only [decide_true, Bool.not_true, Bool.false_eq_true, if_false]
  refine ld1 (ld3 ?_)
  simp only [w_len_rs, List.length_map]
  have hFl : (F (f, i)).length ≤ 150 := by
    obtain ⟨l, hn, e⟩ := hF.ord (f, i)
    rw [e, srtP_len]
    refine Nat.le_trans (List.Nodup.length_le_of_subset hn fun p hp => mem_allPl.2 ?_) Sm1
    have : FlP s (Rb bl) true (f, i) p := by rw [← hF.mem, e, srtP_mem]; exact hp
    exact ((this.typed H).2 rfl).2.1
  refine loop_ix (F (f, i)).length (fun _ => True) trivial fun k hk _ K3 hK3 => ?_
  by_cases hlt3 : k < (F (f, i)).length
  case neg =>
    have : k = (F (f, i)).length := by omega
    subst this
    simp only [g_0, w_lss, Int.lt_irrefl, decide_false, w_brA, Bool.false_eq_true, if_false]
    rw [w_add, wrap_k (k := i) (by omega)]
    exact hK2 hlt2 trivial
  have hlt3' : (k : Int) < (F (f, i)).length := by omega
  simp only [g_0, w_lss, hlt3', decide_true, w_brA, if_true]
  refine ld1 (ld3 ?_)
  refine ix_rs (by simpa using hlt3) (plC_get hlt3) ?_
  rw [w_loadG_ro]
  refine ⟨by simp, ?_⟩
  refine ld2 (ld3 ?_)
  refine ix_rs (by simpa using hlt3) (plC_get hlt3) ?_
  rw [w_loadG_ro]
  refine ⟨by simp, ?_⟩
  simp only [g_0, g_1]
  refine ⟨rfl, rfl, ?_⟩
  have ee : eqCells Am.K2 (plC (F (f, i))[k]) (plC (F (f, i))[k]) = some true := by
    have := eqKey_kC (F (f, i))[k] (F (f, i))[k]
    simpa [eqKey] using this
  have ee' : eqCells [.int .i64, .int .i64] [I ((F (f, i))[k].1 : Nat), I ((F (f, i))[k].2 : Nat)] [I ((F (f, i))[k].1 : Nat), I ((F (f, i))[k].2 : Nat)] = some true := ee
  rw [ee']
  show brA (B false) _ _
  rw [w_brA]
  simp only [Bool.false_eq_true, if_false]
  rw [w_add, wrap_k (k := k) (by omega)]
  exact hK3 hlt3 trivial
end Am
