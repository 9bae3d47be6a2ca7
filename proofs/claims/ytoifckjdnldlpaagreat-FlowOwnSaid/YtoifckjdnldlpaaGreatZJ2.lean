/- J2: joined of Ta, Tb, Tc, Va, Vb. -/
import Derived.Test.YtoifckjdnldlpaaGreatZJ1
import Derived.Test.YtoifckjdnldlpaaGreatZFS
set_option linter.unusedVariables false
set_option linter.unusedSimpArgs false
namespace Am
open Go Go.Proofs.Tryz
open Rt (eqR eqRL eqR_iff)
structure Fn where
  name : ByteArray
  sort : Srt
  body : Tm
  deriving Inhabited
structure Sch where
  syms : List Sy
  funs : List Fn
  deriving Inhabited
def Sch.place (s : Sch) (ps : List Srt) : Pl := ⟨s.syms, s.funs.map (·.sort), ps⟩
def fnamesB : List Fn → List ByteArray → Bool
  | [], _ => true
  | f :: r, seen => nameB f.name && !inN f.name seen && fnamesB r (seen ++ [f.name])
def okF (f : Fn) : Bool := okS f.sort && decide (f.body.nodes ≤ 400) && decide (f.body.depth ≤ 30)
def typedB (s : Sch) (f : Fn) : Bool := (sortR (s.place f.sort.kids) f.body).2 && decide ((sortR (s.place f.sort.kids) f.body).1.kids.length = 0)
def headB (l : List Fn) : Bool := decide ((l.headD default).sort.kids.length = 0)
def schB (s : Sch) : Bool := (symsB s.syms [] && decide (s.syms.length ≤ 24)) && decide (1 ≤ s.funs.length) && decide (s.funs.length ≤ 64) && headB s.funs && fnamesB s.funs [] && s.funs.all okF && s.funs.all (typedB s)
structure SOk (s : Sch) : Prop where
  syms : (symsB s.syms [] && decide (s.syms.length ≤ 24)) = true
  pos : 1 ≤ s.funs.length
  few : s.funs.length ≤ 64
  head : headB s.funs = true
  names : fnamesB s.funs [] = true
  ok : ∀ f, f ∈ s.funs → okF f = true
  typed : ∀ f, f ∈ s.funs → typedB s f = true
theorem schB_iff (s : Sch) : schB s = true ↔ SOk s := by
  unfold schB
  simp only [Bool.and_eq_true, decide_eq_true_eq, List.all_eq_true]
  constructor
  · rintro ⟨⟨⟨⟨⟨⟨⟨a1, a2⟩, b⟩, c⟩, d⟩, e⟩, f⟩, g⟩
    exact ⟨by simp [a1, a2], b, c, d, e, f, g⟩
  · rintro ⟨a, b, c, d, e, f, g⟩
    simp only [Bool.and_eq_true, decide_eq_true_eq] at a
    exact ⟨⟨⟨⟨⟨⟨a, b⟩, c⟩, d⟩, e⟩, f⟩, g⟩
theorem place_ok {s : Sch} (hs : (symsB s.syms [] && decide (s.syms.length ≤ 24)) = true) (hfew : s.funs.length ≤ 64) (hS : ∀ g, g ∈ s.funs → okS g.sort = true) {f : Fn} (hf : f ∈ s.funs) : PlOk (s.place f.sort.kids) := by
  simp only [Bool.and_eq_true, decide_eq_true_eq] at hs
  have hk := hS f hf
  rw [okS_iff] at hk
  obtain ⟨k1, k2, k3⟩ := hk
  obtain ⟨nm, ⟨u, ks⟩, bd⟩ := f
  rw [few_iff] at k3
  refine ⟨symsB_rank hs.1, hs.2, by simpa [Sch.place] using hfew, by simpa [Sch.place, Rt.kids] using k3.2, fun g hg => ?_, fun g hg => ?_⟩
  · simp only [Sch.place, List.mem_map] at hg
    obtain ⟨g', h1, rfl⟩ := hg
    exact hS g' h1
  · simp only [Sch.place, Rt.kids] at hg
    rw [okS_iff]
    simp only [Rt.nodes, Rt.depth] at k1 k2
    have h1 := Rt.nodes_mem hg
    have h2 : g.depth ≤ Rt.depthL ks := by
      have : ∀ (l : List Srt), g ∈ l → g.depth ≤ Rt.depthL l := fun l => by
        induction l with
        | nil => intro h; cases h
        | cons x l ih =>
          intro h
          simp only [Rt.depthL]
          rcases List.mem_cons.1 h with rfl | h
          · omega
          · have := ih h; omega
      exact this ks hg
    have h3 : few g = true := by
      have : ∀ (l : List Srt), fewL l = true → g ∈ l → few g = true := fun l => by
        induction l with
        | nil => intro _ h; cases h
        | cons x l ih =>
          intro h hg
          simp only [fewL, Bool.and_eq_true] at h
          rcases List.mem_cons.1 hg with rfl | hg
          · exact h.1
          · exact ih h.2 hg
      exact this ks k3.1 hg
    exact ⟨by omega, by omega, h3⟩
theorem okF_iff (f : Fn) : okF f = true ↔ okS f.sort = true ∧ f.body.nodes ≤ 400 ∧ f.body.depth ≤ 30 := by simp [okF, and_assoc]
theorem SOk.place {s : Sch} (H : SOk s) {f : Fn} (hf : f ∈ s.funs) : PlOk (s.place f.sort.kids) :=
  place_ok H.syms H.few (fun g hg => ((okF_iff g).1 (H.ok g hg)).1) hf
mutual
def fcs : Tm → List Int
  | .mk a us => (if a.1 = 1 then [a.2] else []) ++ fcsL us
def fcsL : List Tm → List Int
  | [] => []
  | t :: ts => fcs t ++ fcsL ts
end
theorem fcsL_mem {us : List Tm} {k : Int} : k ∈ fcsL us ↔ ∃ t, t ∈ us ∧ k ∈ fcs t := by
  induction us with
  | nil => simp [fcsL]
  | cons t us ih => simp [fcsL, ih]
mutual
def ren (to : Int → Int) : Tm → Tm
  | .mk a us => .mk (a.1, if a.1 = 1 then to a.2 else a.2) (renL to us)
def renL (to : Int → Int) : List Tm → List Tm
  | [] => []
  | t :: ts => ren to t :: renL to ts
end
theorem renL_eq (to : Int → Int) (us : List Tm) : renL to us = us.map (ren to) := by induction us with | nil => rfl | cons t us ih => simp [renL, ih]
theorem ren_id {to : Int → Int} (t : Tm) : (∀ k, k ∈ fcs t → to k = k) → ren to t = t := by
  refine Rt.ind (P := fun t => (∀ k, k ∈ fcs t → to k = k) → ren to t = t) (fun a us ih => ?_) t
  intro h
  have e1 : us.map (ren to) = us := by
    have : us.map (ren to) = us.map id := List.map_congr_left fun t ht => ih t ht fun k hk => h k (by simp only [fcs, List.mem_append]; exact .inr (fcsL_mem.2 ⟨t, ht, hk⟩))
    rw [this, List.map_id]
  have e2 : (a.1, if a.1 = 1 then to a.2 else a.2) = a := by
    by_cases h1 : a.1 = 1
    · rw [if_pos h1, h a.2 (by simp [fcs, h1])]
    · rw [if_neg h1]
  simp only [ren, renL_eq, e1, e2]
theorem argsB_mem {p : Pl} {us : List Tm} : ∀ {ks : List Srt}, argsB p us ks = true → us.length ≤ ks.length → ∀ u, u ∈ us → (sortR p u).2 = true := by
  induction us with
  | nil => intro ks _ _ u hu; cases hu
  | cons t us ih =>
    intro ks h hl u hu
    cases ks with
    | nil => simp at hl
    | cons x xs =>
      simp only [argsB, Bool.and_eq_true] at h
      rcases List.mem_cons.1 hu with rfl | hu
      · exact h.1.1
      · exact ih h.2 (by simpa using hl) u hu
end Am
set_option linter.unusedVariables false
set_option linter.unusedSimpArgs false
namespace Am
open Go Go.Proofs.Tryz
open Rt (eqR eqRL eqR_iff)
theorem sortR_fcs {p : Pl} (t : Tm) : (sortR p t).2 = true → ∀ k, k ∈ fcs t → 0 ≤ k ∧ k < p.funs.length := by
  refine Rt.ind (P := fun t => (sortR p t).2 = true → ∀ k, k ∈ fcs t → 0 ≤ k ∧ k < p.funs.length) (fun a us ih => ?_) t
  intro hb k hk
  rw [sortR] at hb
  by_cases hc : ((headR p a).2 && decide (us.length ≤ (headR p a).1.kids.length) && argsB p us (headR p a).1.kids) = true
  · simp only [Bool.and_eq_true, decide_eq_true_eq] at hc
    obtain ⟨⟨h1, h2⟩, h3⟩ := hc
    simp only [fcs, List.mem_append] at hk
    rcases hk with hk | hk
    · by_cases k1 : a.1 = 1
      · rw [if_pos k1] at hk
        have : k = a.2 := by simpa using hk
        subst this
        unfold headR at h1
        by_cases h0 : a.2 < 0
        · simp [h0] at h1
        by_cases hl : a.2 < p.funs.length
        · exact ⟨by omega, hl⟩
        · simp [h0, k1, hl] at h1
      · rw [if_neg k1] at hk; cases hk
    · obtain ⟨u, hu, hk⟩ := fcsL_mem.1 hk
      exact ih u hu (argsB_mem h3 h2 u hu) k hk
  · rw [if_neg hc] at hb; cases hb
theorem SOk.calls {s : Sch} (H : SOk s) {f : Fn} (hf : f ∈ s.funs) {k : Int} (hk : k ∈ fcs f.body) : 0 ≤ k ∧ k < s.funs.length := by
  have ht := H.typed f hf
  unfold typedB at ht
  simp only [Bool.and_eq_true] at ht
  have := sortR_fcs f.body ht.1 k hk
  simpa [Sch.place] using this
inductive Rch (s : Sch) : Nat → Prop
  | zero : Rch s 0
  | step {f k : Nat} (hf : Rch s f) (hk : f < s.funs.length) (hc : (k : Int) ∈ fcs (s.funs.getD f default).body) : Rch s k
def IsR (s : Sch) (l : List Bool) : Prop := l.length = s.funs.length ∧ ∀ k, k < s.funs.length → (l.getD k false = true ↔ Rch s k)
theorem IsR.unique {s : Sch} {a b : List Bool} (ha : IsR s a) (hb : IsR s b) : a = b := by
  refine List.ext_getElem (ha.1.trans hb.1.symm) fun k h1 h2 => ?_
  have h3 : k < s.funs.length := by rw [← ha.1]; exact h1
  have e1 := ha.2 k h3
  have e2 := hb.2 k h3
  simp only [List.getD_eq_getElem?_getD, List.getElem?_eq_getElem h1, List.getElem?_eq_getElem h2, Option.getD_some] at e1 e2
  rw [Bool.eq_iff_iff, e1, e2]
end Am
set_option linter.unusedVariables false
set_option linter.unusedSimpArgs false
namespace Am
open Go Go.Proofs.Tryz
open Rt (eqR eqRL eqR_iff)
theorem kids_mk {α : Type} (a : α) (us : List (Rt α)) : (Rt.mk a us).kids = us := rfl
end Am
set_option linter.unusedVariables false
set_option linter.unusedSimpArgs false
namespace Am
open Go Go.Proofs.Tryz
open Rt (eqR eqRL eqR_iff)
def fnC (f : Fn) : List AV := [S f.name, srC f.sort, I f.body.lab.1, I f.body.lab.2, .rs 3 (tmCs f.body.kids)]
def fnCs (l : List Fn) : List (List AV) := l.map fnC
def sm (s : Sch) : AV := .agg [.rs 2 (syCs s.syms), .rs 5 (fnCs s.funs)]
theorem sm_eta (s : Sch) : (.agg [.rs 2 (syCs s.syms), .rs 5 (fnCs s.funs)] : AV) = sm s := rfl
@[simp] theorem fnCs_len (l : List Fn) : (fnCs l).length = l.length := by simp [fnCs]
@[simp] theorem fnCs_gE {l : List Fn} {k : Nat} (hk : k < (fnCs l).length) : (fnCs l)[k] = fnC (l[k]'(by simpa using hk)) := by simp [fnCs]
@[simp] theorem fnC_len (f : Fn) : (fnC f).length = 5 := rfl
@[simp] theorem fnCs_take (l : List Fn) (k : Nat) : (fnCs l).take k = fnCs (l.take k) := by simp [fnCs]
theorem fnCs_get {l : List Fn} {k : Nat} (hk : k < l.length) : (fnCs l).getD k [] = fnC l[k] := by simp [fnCs, List.getD_eq_getElem?_getD, hk]
@[simp] theorem fnCs_get' {l : List Fn} {k : Nat} (hk : k < l.length) : (fnCs l)[k]?.getD [] = fnC l[k] := by simp [fnCs, hk]
@[simp] theorem fnC_0 (f : Fn) : g (fnC f) 0 = S f.name := rfl
@[simp] theorem fnC_1 (f : Fn) : g (fnC f) 1 = srC f.sort := rfl
@[simp] theorem fnC_2 (f : Fn) : g (fnC f) 2 = I f.body.lab.1 := rfl
@[simp] theorem fnC_3 (f : Fn) : g (fnC f) 3 = I f.body.lab.2 := rfl
@[simp] theorem fnC_4 (f : Fn) : g (fnC f) 4 = .rs 3 (tmCs f.body.kids) := rfl
theorem fnames_step {l : List Fn} {k : Nat} (hk : k < l.length) : fnamesB (l.drop k) ((l.map (·.name)).take k) = (nameB l[k].name && !inN l[k].name ((l.map (·.name)).take k) && fnamesB (l.drop (k + 1)) ((l.map (·.name)).take (k + 1))) := by
  have e : (l.map (·.name)).take (k + 1) = (l.map (·.name)).take k ++ [l[k].name] := by rw [List.take_succ_eq_append_getElem (by simpa using hk)]; simp
  rw [List.drop_eq_getElem_cons hk, e]
  simp [fnamesB]
theorem scheme_Place_c (s : Sch) (ps : List Srt) (hl : s.funs.length ≤ 64) {h : Heap} {Q : AV → Heap → Prop} (hq : Q (pl (s.place ps)) h) : ACalls prog n_scheme_Place [sm s, .rs 1 (srCs ps)] h Q := by
  refine scheme_Place_call ?_
  unfold scheme_Place sm
  simp
  refine loop_up s.funs.length (fun k σ h' => ∃ x, σ = [I k, .rs 2 (syCs s.syms), x, .rs 1 (srCs ps)] ∧ SlO 1 (srCs ((s.funs.take k).map (·.sort))) h x h') ⟨.e0, rfl, by simp [srCs]; exact SlO.nil 1⟩ (fun k σ' h' ⟨x, e, _⟩ => by rw [e]; rfl) ?_
  rintro k σ' h' K hk ⟨x, rfl, hs⟩ hK
  by_cases hlt : k < s.funs.length
  · have hlt' : (k : Int) < s.funs.length := by omega
    simp [hlt', hlt]
    refine hs.app (by simp; omega) fun x2 h3 hs2 => ?_
    rw [hs2.one, wrap_k (k := k) (by omega)]
    refine hK hlt _ _ ⟨x2, rfl, ?_⟩
    rw [List.take_succ_eq_append_getElem hlt, List.map_append, srCs_eq, List.map_append, ← srCs_eq]
    exact hs2
  · have hkn : k = s.funs.length := by omega
    subst hkn
    simp
    rw [List.take_length] at hs
    obtain ⟨r1, r2⟩ := hs.wk (srCs_sz _)
    exact retA_wk (Ref.aggs (.cons .refl (.cons r1 (.cons .refl .nil)))) r2 hq
theorem vref03_Place_c (s : Sch) {i : Nat} (hi : i < s.funs.length) (hl : s.funs.length ≤ 64) {h : Heap} {Q : AV → Heap → Prop} (hq : Q (pl (s.place s.funs[i].sort.kids)) h) : ACalls prog n_vref03_Place [sm s, I i] h Q := by
  refine vref03_Place_call ?_
  unfold vref03_Place sm
  have hi' : (i : Int) < s.funs.length := by omega
  simp [hi', hi, fnC, srC_eq]
  refine loop_up s.funs.length (fun k σ h' => ∃ x, σ = [I k, .rs 2 (syCs s.syms), x, .rs 1 (srCs s.funs[i].sort.kids)] ∧ SlO 1 (srCs ((s.funs.take k).map (·.sort))) h x h') ⟨.e0, rfl, by simp [srCs]; exact SlO.nil 1⟩ (fun k σ' h' ⟨x, e, _⟩ => by rw [e]; rfl) ?_
  rintro k σ' h' K hk ⟨x, rfl, hs⟩ hK
  by_cases hlt : k < s.funs.length
  · have hlt' : (k : Int) < s.funs.length := by omega
    simp [hlt', hlt]
    refine hs.app (by simp; omega) fun x2 h3 hs2 => ?_
    rw [hs2.one, wrap_k (k := k) (by omega)]
    refine hK hlt _ _ ⟨x2, rfl, ?_⟩
    rw [List.take_succ_eq_append_getElem hlt, List.map_append, srCs_eq, List.map_append, ← srCs_eq]
    exact hs2
  · have hkn : k = s.funs.length := by omega
    subst hkn
    simp
    rw [List.take_length] at hs
    obtain ⟨r1, r2⟩ := hs.wk (srCs_sz _)
    exact retA_wk (Ref.aggs (.cons .refl (.cons r1 (.cons .refl .nil)))) r2 hq
theorem term_Place_Of_c (p : Pl) (hp : PlOk p) (t : Tm) {h : Heap} {Q : AV → Heap → Prop} (ht : t.nodes ≤ 1000000000) (hq : Q (.tup [sr (sortR p t).1, B (sortR p t).2]) h) : ACalls prog n_term_Place_Of [pl p, tm t] h Q := by
  refine term_Place_Of_call ?_
  unfold term_Place_Of
  simp [pl, tm]
  refine callS_of ?_
  simp only [tm_eta, pl_eta]
  refine term_Place_sort_c p hp t ht ?_
  simp [sr]
  exact retA_of hq
theorem headB_get {l : List Fn} (hl : 0 < l.length) : headB l = decide (l[0].sort.kids.length = 0) := by
  cases l with
  | nil => simp at hl
  | cons f r => rfl
theorem scheme_Check_c (s : Sch) {h : Heap} {Q : AV → Heap → Prop} (hq : Q (I (if schB s then 0 else 7)) h) : ACalls prog n_scheme_Check [sm s] h Q := by
  have hF : ∀ {h' : Heap}, HRef h' h → ¬ SOk s → retA (I 7) h' Q := fun hh hn => by
    have : schB s = false := Bool.eq_false_iff.2 fun e => hn ((schB_iff s).1 e)
    exact retA_wk .refl hh (by rw [this] at hq; simpa using hq)
  refine scheme_Check_call ?_
  unfold scheme_Check sm
  simp only [w_agg, List.length_cons, List.length_nil, true_and, g_0, g_1, w_len_rs, syCs_len, fnCs_len, w_gtr, w_brA, decide_eq_true_eq]
  split
  · rename_i c
    exact hF (HRef.refl h) fun H => by have := H.syms; simp only [Bool.and_eq_true, decide_eq_true_eq] at this; omega
  rename_i c1
  refine callS_of (term_Symbols_c _ (by omega) ?_)
  cases h1 : (symsB s.syms [] && decide (s.syms.length ≤ 24)) with
  | false => simp; exact hF (HRef.refl h) fun H => by rw [H.syms] at h1; cases h1
  | true =>
  simp only [w_notA, w_brA, Bool.not_true, Bool.false_eq_true, if_false, w_eql, decide_eq_true_eq]
  split
  · exact hF (HRef.refl h) fun H => by have := H.pos; omega
  split
  · exact hF (HRef.refl h) fun H => by have := H.few; omega
  rename_i c2 c3
  have hpos : 0 < s.funs.length := by omega
  have hpos' : (0 : Int) < s.funs.length := by omega
  have hhd := headB_get hpos
  have e0 : (fnCs s.funs).getD (0 : Int).toNat [] = fnC s.funs[0] := fnCs_get hpos
  simp only [w_idx_rs, fnCs_len, e0, w_fld_ro, fnC, List.drop_succ_cons, List.drop_zero, w_loadV_ro, srC_eq, w_len_rs, srCs_len, w_gtr, w_brA, decide_eq_true_eq, true_and]
  refine ⟨by omega, hpos', ?_⟩
  split
  · exact hF (HRef.refl h) fun H => by have := H.head; rw [hhd, decide_eq_true_eq] at this; omega
  rename_i c4
  have hh0 : headB s.funs = true := by rw [hhd, decide_eq_true_eq]; omega
  intro id hid
  have hdrop : ∀ n, HRef (h.set id n) h := fun n => HRef.drop hid
  refine loop_up s.funs.length (fun k σ h' => σ = [I k] ∧ h' = h.set id (.map (nmE ((s.funs.map (·.name)).take k))) ∧ fnamesB s.funs [] = fnamesB (s.funs.drop k) ((s.funs.map (·.name)).take k) ∧ ∀ i (hi : i < s.funs.length), i < k → okS s.funs[i].sort = true) ⟨rfl, by simp [nmE], by simp, fun i hi h0 => by omega⟩ (fun k σ' h' ⟨e, _⟩ => by rw [e]; rfl) ?_
  rintro k σ' h' K hk ⟨rfl, rfl, hi, hok⟩ hK
  by_cases hlt : k < s.funs.length
  · have hlt' : (k : Int) < s.funs.length := by omega
    have hh := Heap.set_same h id (.map (nmE ((s.funs.map (·.name)).take k)))
    simp [hlt', hlt]
    refine callS_of (term_Name_c _ ?_)
    rw [fnames_step hlt] at hi
    cases n1 : nameB s.funs[k].name with
    | false => simp; exact hF (hdrop _) fun H => by rw [H.names, n1] at hi; simp at hi
    | true =>
      simp
      refine look_names hh _ _ ?_
      cases n2 : inN s.funs[k].name ((s.funs.map (·.name)).take k) with
      | true => simp; exact hF (hdrop _) fun H => by rw [H.names, n2] at hi; simp at hi
      | false =>
        simp
        refine callS_of ?_
        rw [sr_eta]
        refine sorts_Check_c _ ?_
        cases n3 : okS s.funs[k].sort with
        | false => simp; exact hF (hdrop _) fun H => by have := ((okF_iff _).1 (H.ok _ (List.getElem_mem hlt))).1; rw [n3] at this; cases this
        | true =>
          simp
          refine upd_names hh _ n2 _ ?_
          simp [wrap_k (k := k) (by omega)]
          refine hK hlt _ _ ⟨rfl, ?_, ?_, fun i hi2 hik => ?_⟩
          · rw [List.take_succ_eq_append_getElem (by simpa using hlt)]; simp
          · rw [hi]; simp [n1, n2]
          · by_cases e : i = k
            · subst e; exact n3
            · exact hok i hi2 (by omega)
  · have hkn : k = s.funs.length := by omega
    subst hkn
    have hnm : fnamesB s.funs [] = true := by rw [hi, List.drop_length]; rfl
    have hS : ∀ f, f ∈ s.funs → okS f.sort = true := fun f hf => by
      obtain ⟨i, hi, rfl⟩ := List.mem_iff_getElem.1 hf
      exact hok i hi hi
    simp
    refine loop_up s.funs.length (fun k σ h' => σ = [I k] ∧ h' = h.set id (.map (nmE ((s.funs.map (·.name)).take s.funs.length))) ∧ ∀ i (hi : i < s.funs.length), i < k → okF s.funs[i] = true ∧ typedB s s.funs[i] = true) ⟨rfl, by simp, fun i hi h0 => by omega⟩ (fun k σ' h' ⟨e, _⟩ => by rw [e]; rfl) ?_
    rintro k σ' h' K hk ⟨rfl, rfl, hok2⟩ hK
    by_cases hlt : k < s.funs.length
    · have hlt' : (k : Int) < s.funs.length := by omega
      simp [hlt', hlt]
      refine callS_of ?_
      rw [tm_eta]
      refine term_Size_c _ ?_
      simp
      have hfm := List.getElem_mem hlt
      by_cases n1 : s.funs[k].body.nodes ≤ 400
      · have e1 : szN 100000 s.funs[k].body = s.funs[k].body.nodes := by simp [szN]; omega
        have e2 : szD 100000 s.funs[k].body = s.funs[k].body.depth := by simp [szD]; omega
        have n1' : ¬ (400 : Int) < s.funs[k].body.nodes := by omega
        simp [e1, e2, n1']
        by_cases n2 : s.funs[k].body.depth ≤ 30
        · have n2' : ¬ (30 : Int) < s.funs[k].body.depth := by omega
          simp [n2']
          refine callS_of ?_
          rw [srC_eq, sm_eta]
          refine scheme_Place_c s _ (by omega) ?_
          refine callS_of ?_
          have hpo := place_ok h1 (by omega) hS hfm
          refine term_Place_Of_c _ hpo _ (by omega) ?_
          simp [sr, srC_eq]
          have ht : typedB s s.funs[k] = ((sortR (s.place s.funs[k].sort.kids) s.funs[k].body).2 && decide ((sortR (s.place s.funs[k].sort.kids) s.funs[k].body).1.kids.length = 0)) := rfl
          cases n3 : (sortR (s.place s.funs[k].sort.kids) s.funs[k].body).2 with
          | false => simp; exact hF (hdrop _) fun H => by have := H.typed _ hfm; rw [ht, n3] at this; cases this
          | true =>
            simp
            by_cases n4 : (sortR (s.place s.funs[k].sort.kids) s.funs[k].body).1.kids.length = 0
            · simp [n4, wrap_k (k := k) (by omega)]
              refine hK hlt _ _ ⟨rfl, by simp, fun i hi2 hik => ?_⟩
              by_cases e : i = k
              · subst e; exact ⟨(okF_iff _).2 ⟨hS _ hfm, n1, n2⟩, by rw [ht, n3, n4]; rfl⟩
              · exact hok2 i hi2 (by omega)
            · have n4' : 0 < (sortR (s.place s.funs[k].sort.kids) s.funs[k].body).1.kids.length := by omega
              simp [n4']
              exact hF (hdrop _) fun H => by have := H.typed _ hfm; rw [ht, n3, decide_eq_false n4] at this; cases this
        · have n2' : (30 : Int) < s.funs[k].body.depth := by omega
          simp [n2']; exact hF (hdrop _) fun H => by have := ((okF_iff _).1 (H.ok _ hfm)).2.2; omega
      · have n1' : (400 : Int) < szN 100000 s.funs[k].body := by unfold szN; split <;> omega
        simp [n1']; exact hF (hdrop _) fun H => by have := ((okF_iff _).1 (H.ok _ hfm)).2.1; omega
    · have hkn : k = s.funs.length := by omega
      subst hkn
      have H : SOk s := ⟨h1, by omega, by omega, hh0, hnm, fun f hf => by
        obtain ⟨i, hi, rfl⟩ := List.mem_iff_getElem.1 hf
        exact (hok2 i hi hi).1, fun f hf => by
        obtain ⟨i, hi, rfl⟩ := List.mem_iff_getElem.1 hf
        exact (hok2 i hi hi).2⟩
      simp
      exact retA_wk .refl (HRef.drop hid) (by rw [(schB_iff s).2 H] at hq; simpa using hq)
end Am
set_option linter.unusedVariables false
set_option linter.unusedSimpArgs false
namespace Am
open Go Go.Proofs.Tryz
open Rt (eqR eqRL eqR_iff)
theorem vref03_Is_c (s : Sch) {h : Heap} {Q : AV → Heap → Prop} (hq : Q (B (schB s)) h) : ACalls prog n_vref03_Is [sm s] h Q := by
  have hF : ¬ SOk s → retA (B false) h Q := fun hn => by
    have : schB s = false := Bool.eq_false_iff.2 fun e => hn ((schB_iff s).1 e)
    exact retA_of (by rw [this] at hq; exact hq)
  refine vref03_Is_call ?_
  unfold vref03_Is sm
  simp only [w_agg, List.length_cons, List.length_nil, true_and, g_0, g_1, w_len_rs, syCs_len, fnCs_len, w_gtr, w_lss, w_brA, decide_eq_true_eq]
  refine callS_of (vref02_Symbols_c _ ?_)
  cases h1 : (symsB s.syms [] && decide (s.syms.length ≤ 24)) with
  | false => simp; exact hF fun H => by rw [H.syms] at h1; cases h1
  | true =>
  simp only [w_notA, w_brA, Bool.not_true, Bool.false_eq_true, if_false, decide_eq_true_eq]
  split
  · exact hF fun H => by have := H.pos; omega
  split
  · exact hF fun H => by have := H.few; omega
  rename_i c2 c3
  have hpos : 0 < s.funs.length := by omega
  have hpos' : (0 : Int) < s.funs.length := by omega
  have hhd := headB_get hpos
  refine loop_ix s.funs.length (fun k => fnamesB s.funs [] = fnamesB (s.funs.drop k) ((s.funs.map (·.name)).take k) ∧ ∀ i (hi : i < s.funs.length), i < k → okF s.funs[i] = true) ⟨by simp, fun i hi h0 => by omega⟩ ?_
  rintro k hk ⟨hi, hok⟩ K hK
  by_cases hlt : k < s.funs.length
  · have hlt' : (k : Int) < s.funs.length := by omega
    have hfm := List.getElem_mem hlt
    simp [hlt', hlt]
    refine callS_of (vref02_Name_c _ ?_)
    rw [fnames_step hlt] at hi
    cases n1 : nameB s.funs[k].name with
    | false => simp; exact hF fun H => by rw [H.names, n1] at hi; simp at hi
    | true =>
    simp
    refine callS_of ?_
    rw [sr_eta]
    refine vref01_Is_c _ ?_
    cases n2 : okS s.funs[k].sort with
    | false => simp; exact hF fun H => by have := ((okF_iff _).1 (H.ok _ hfm)).1; rw [n2] at this; cases this
    | true =>
    simp
    refine callS_of ?_
    rw [tm_eta]
    refine vref02_Nodes_c _ (m := 400) (by omega) ?_
    have e1 : decide ((400 : Int) < ((min s.funs[k].body.nodes (400 + 1) : Nat) : Int)) = decide (400 < s.funs[k].body.nodes) := by rw [decide_eq_decide]; omega
    rw [w_gtr, e1, w_brA]
    by_cases n3 : 400 < s.funs[k].body.nodes
    · simp only [n3, decide_true, if_true]; exact hF fun H => by have := ((okF_iff _).1 (H.ok _ hfm)).2.1; omega
    simp only [n3, decide_false, Bool.false_eq_true, if_false]
    refine callS_of (vref02_Depth_c _ (by omega) ?_)
    by_cases n4 : 30 < s.funs[k].body.depth
    · have n4' : (30 : Int) < s.funs[k].body.depth := by omega
      simp [n4']; exact hF fun H => by have := ((okF_iff _).1 (H.ok _ hfm)).2.2; omega
    have n4' : ¬ (30 : Int) < s.funs[k].body.depth := by omega
    have hkl : k ≤ s.funs.length := by omega
    have hkI : (k : Int) ≤ s.funs.length := by omega
    have hmin : min (k : Int) (s.funs.length : Int) = k := by omega
    have hmN : min k s.funs.length = k := Nat.min_eq_left hkl
    simp [n4', hkl, hkI, hmin, hmN]
    refine loop_ix k (fun j => inN s.funs[k].name ((s.funs.map (·.name)).take k) = inN s.funs[k].name (((s.funs.map (·.name)).take k).drop j)) (by simp) fun j hj hij K2 hK2 => ?_
    by_cases hjk : j < k
    · have hjk' : (j : Int) < k := by omega
      have hjl : j < s.funs.length := by omega
      have hjl' : (j : Int) < s.funs.length := by omega
      simp [hjk', hjk, hjl, hjl', hmN]
      rw [inN_take (by simp; omega)] at hij
      have e0 : ((s.funs.map (·.name)).take k)[j]'(by simp; omega) = s.funs[j].name := by simp
      rw [e0] at hij
      cases he : s.funs[k].name.toList == s.funs[j].name.toList with
      | true =>
        have he' : s.funs[k].name.toList = s.funs[j].name.toList := eq_of_beq he
        simp [he']
        rw [he] at hij
        exact hF fun H => by rw [H.names, hij] at hi; simp at hi
      | false =>
        have he' : ¬ s.funs[k].name.toList = s.funs[j].name.toList := by simpa using he
        simp [he', wrap_k (k := j) (by omega)]
        exact hK2 hjk (by rw [hij, he]; simp)
    · have : j = k := by omega
      subst this
      have hn : inN s.funs[j].name ((s.funs.map (·.name)).take j) = false := by
        rw [hij, List.drop_eq_nil_of_le (by simp; omega)]; rfl
      simp [wrap_k (k := j) (by omega)]
      refine hK hlt ⟨by rw [hi, n1, hn]; simp, fun i hi2 hij => ?_⟩
      by_cases e : i = j
      · subst e; exact (okF_iff _).2 ⟨n2, by omega, by omega⟩
      · exact hok i hi2 (by omega)
  · have hkn : k = s.funs.length := by omega
    subst hkn
    have hnm : fnamesB s.funs [] = true := by rw [hi, List.drop_length]; rfl
    have hO : ∀ f, f ∈ s.funs → okF f = true := fun f hf => by
      obtain ⟨i, hi, rfl⟩ := List.mem_iff_getElem.1 hf
      exact hok i hi hi
    have e0 : (fnCs s.funs).getD (0 : Int).toNat [] = fnC s.funs[0] := fnCs_get hpos
    simp only [g_0, w_lss, Int.lt_irrefl, decide_false, w_brA, Bool.false_eq_true, if_false]
    simp only [w_idx_rs, fnCs_len, e0, w_fld_ro, fnC, List.drop_succ_cons, List.drop_zero, w_loadV_ro, srC_eq, w_len_rs, srCs_len, w_gtr, w_brA, decide_eq_true_eq, true_and]
    refine ⟨by omega, hpos', ?_⟩
    split
    · exact hF fun H => by have := H.head; rw [hhd, decide_eq_true_eq] at this; omega
    rename_i c4
    have hh0 : headB s.funs = true := by rw [hhd, decide_eq_true_eq]; omega
    refine loop_ix s.funs.length (fun k => ∀ i (hi : i < s.funs.length), i < k → typedB s s.funs[i] = true) (fun i hi h0 => by omega) ?_
    rintro k hk hok2 K hK
    by_cases hlt : k < s.funs.length
    · have hlt' : (k : Int) < s.funs.length := by omega
      have hfm := List.getElem_mem hlt
      have hf := (okF_iff _).1 (hO _ hfm)
      simp [hlt', hlt]
      refine callS_of ?_
      rw [sm_eta]
      refine vref03_Place_c s hlt (by omega) ?_
      refine callS_of ?_
      rw [tm_eta]
      have hpo := place_ok h1 (by omega) (fun g hg => ((okF_iff g).1 (hO g hg)).1) hfm
      refine vref02_Of_c _ hpo _ (by omega) ?_
      simp [sr, srC_eq]
      have ht : typedB s s.funs[k] = ((sortR (s.place s.funs[k].sort.kids) s.funs[k].body).2 && decide ((sortR (s.place s.funs[k].sort.kids) s.funs[k].body).1.kids.length = 0)) := rfl
      cases n3 : (sortR (s.place s.funs[k].sort.kids) s.funs[k].body).2 with
      | false => simp; exact hF fun H => by have := H.typed _ hfm; rw [ht, n3] at this; cases this
      | true =>
        simp
        by_cases n4 : (sortR (s.place s.funs[k].sort.kids) s.funs[k].body).1.kids.length = 0
        · simp [n4, wrap_k (k := k) (by omega)]
          refine hK hlt fun i hi2 hik => ?_
          by_cases e : i = k
          · subst e; rw [ht, n3, n4]; rfl
          · exact hok2 i hi2 (by omega)
        · have n4' : 0 < (sortR (s.place s.funs[k].sort.kids) s.funs[k].body).1.kids.length := by omega
          simp [n4']
          exact hF fun H => by have := H.typed _ hfm; rw [ht, n3, decide_eq_false n4] at this; cases this
    · have hkn : k = s.funs.length := by omega
      subst hkn
      have H : SOk s := ⟨h1, by omega, by omega, hh0, hnm, hO, fun f hf => by
        obtain ⟨i, hi, rfl⟩ := List.mem_iff_getElem.1 hf
        exact hok2 i hi hi⟩
      simp
      exact retA_of (by rw [(schB_iff s).2 H] at hq; exact hq)
theorem fnCs_snoc {l : List Fn} {k : Nat} (hk : k < l.length) : fnCs (l.take (k + 1)) = fnCs (l.take k) ++ [fnC l[k]] := by
  unfold fnCs; rw [List.take_succ_eq_append_getElem hk, List.map_append]; rfl
theorem fnCs_sz (l : List Fn) : ∀ i, i < (fnCs l).length → ((fnCs l).getD i []).length = 5 := fun i hi => by
  rw [fnCs_get (by simpa using hi)]; rfl
theorem syCs_sz (l : List Sy) : ∀ i, i < (syCs l).length → ((syCs l).getD i []).length = 2 := fun i hi => by
  have h : i < l.length := by simpa using hi
  simp [syCs, List.getD_eq_getElem?_getD, h]
theorem SOk.nsyms {s : Sch} (H : SOk s) : s.syms.length ≤ 24 := by have := H.syms; simp only [Bool.and_eq_true, decide_eq_true_eq] at this; exact this.2
theorem SOk.body {s : Sch} (H : SOk s) {f : Fn} (hf : f ∈ s.funs) : f.body.nodes ≤ 400 := ((okF_iff f).1 (H.ok f hf)).2.1
theorem SOk.srt {s : Sch} (H : SOk s) {f : Fn} (hf : f ∈ s.funs) : okS f.sort = true := ((okF_iff f).1 (H.ok f hf)).1
theorem SlO.wk2 {h h1 h2 : Heap} {sz1 sz2 : Nat} {els1 els2 : List (List AV)} {x1 x2 : AV} (a : SlO sz1 els1 h x1 h1) (b : SlO sz2 els2 h1 x2 h2) (z1 : ∀ i, i < els1.length → (els1.getD i []).length = sz1) (z2 : ∀ i, i < els2.length → (els2.getD i []).length = sz2) :
    Ref h2 h x1 (.rs sz1 els1) ∧ Ref h2 h x2 (.rs sz2 els2) ∧ HRef h2 h := by
  rcases a with ⟨rfl, rfl, rfl⟩ | ⟨hne, id, hi, rfl, rfl⟩
  · exact ⟨.e0, (b.wk z2).1, (b.wk z2).2⟩
  · rcases b with ⟨rfl, rfl, rfl⟩ | ⟨hne2, id2, hi2, rfl, rfl⟩
    · exact ⟨.frz (Heap.set_same _ _ _) hi (Nat.le_refl _) rfl z1 fun i j _ _ => .refl, .e0, HRef.drop hi⟩
    · have hn : id2 ≠ id := fun e => by subst e; rw [Heap.set_same] at hi2; cases hi2
      have hi2' : h id2 = none := by rw [Heap.set_ne hn] at hi2; exact hi2
      refine ⟨.frz (els := els1) (by rw [Heap.set_ne (fun e => hn e.symm), Heap.set_same]) hi (Nat.le_refl _) rfl z1 fun i j _ _ => .refl, .frz (Heap.set_same _ _ _) hi2' (Nat.le_refl _) rfl z2 fun i j _ _ => .refl, HRef.sub fun j n hj => ?_⟩
      rw [Heap.set_ne, Heap.set_ne]
      · exact hj
      · rintro rfl; rw [hi] at hj; cases hj
      · rintro rfl; rw [hi2'] at hj; cases hj
theorem vref03_Copy_c (s : Sch) (H : SOk s) {h : Heap} {Q : AV → Heap → Prop} (hq : Q (sm s) h) : ACalls prog n_vref03_Copy [sm s] h Q := by
  refine vref03_Copy_call ?_
  unfold vref03_Copy sm
  have hsy := H.nsyms
  have hfw := H.few
  simp only [w_agg, List.length_cons, List.length_nil, true_and, g_0, g_1]
  refine (SlO.nil 2).app (ys := syCs s.syms) (by simp; omega) fun x h1 hs1 => ?_
  rw [List.nil_append] at hs1
  rw [hs1.one]
  simp
  refine loop_up s.funs.length (fun k σ h' => ∃ y, σ = [I k, x, y] ∧ SlO 5 (fnCs (s.funs.take k)) h1 y h') ⟨.e0, rfl, by simp [fnCs]; exact SlO.nil 5⟩ (fun k σ' h' ⟨x, e, _⟩ => by rw [e]; rfl) ?_
  rintro k σ' h' K hk ⟨y, rfl, hs⟩ hK
  by_cases hlt : k < s.funs.length
  · have hlt' : (k : Int) < s.funs.length := by omega
    have hfm := List.getElem_mem hlt
    have hb := H.body hfm
    have hn := okS_nodes (H.srt hfm)
    simp [hlt', hlt]
    refine callS_of ?_
    rw [sr_eta]
    refine vref01_Copy_f _ (by omega) ?_
    refine callS_of ?_
    rw [tm_eta]
    refine vref02_Copy_f _ (by omega) ?_
    simp [sr, tm]
    refine hs.app (by simp; omega) fun x2 h3 hs2 => ?_
    rw [hs2.one, wrap_k (k := k) (by omega)]
    refine hK hlt _ _ ⟨x2, rfl, ?_⟩
    rw [fnCs_snoc hlt]
    exact hs2
  · have hkn : k = s.funs.length := by omega
    subst hkn
    simp
    rw [List.take_length] at hs
    obtain ⟨r1, r2, r3⟩ := hs1.wk2 hs (syCs_sz _) (fnCs_sz _)
    exact retA_wk (Ref.aggs (.cons r1 (.cons r2 .nil))) r3 hq
theorem eqCells_refl : ∀ (s : Sy), eqCells [.str, .int .i64] [S s.1, I s.2] [S s.1, I s.2] = some true := fun s => by
  simp [eqCells, eqCell]
theorem vref03_Equal_r (s : Sch) (H : SOk s) {h : Heap} {Q : AV → Heap → Prop} (hq : Q (B true) h) : ACalls prog n_vref03_Equal [sm s, sm s] h Q := by
  refine vref03_Equal_call ?_
  unfold vref03_Equal sm
  have hsy := H.nsyms
  have hfw := H.few
  simp
  refine loop_ix s.syms.length (fun _ => True) trivial fun k hk _ K hK => ?_
  by_cases hlt : k < s.syms.length
  · have hlt' : (k : Int) < s.syms.length := by omega
    simp [hlt', hlt]
    refine ⟨rfl, rfl, ?_⟩
    rw [eqCells_refl]
    simp [wrap_k (k := k) (by omega)]
    exact hK hlt trivial
  · have hkn : k = s.syms.length := by omega
    subst hkn
    simp
    refine loop_ix s.funs.length (fun _ => True) trivial fun k hk _ K hK => ?_
    by_cases hlt : k < s.funs.length
    · have hlt' : (k : Int) < s.funs.length := by omega
      have hfm := List.getElem_mem hlt
      have hb := H.body hfm
      have hn := okS_nodes (H.srt hfm)
      simp [hlt', hlt, fnC]
      refine callS_of ?_
      rw [sr_eta]
      refine vref01_Equal_c _ _ (by omega) ?_
      simp [Rt.eqR_refl]
      refine callS_of ?_
      rw [tm_eta]
      refine vref02_Equal_c _ _ (by omega) ?_
      simp [Rt.eqR_refl, wrap_k (k := k) (by omega)]
      exact hK hlt trivial
    · have hkn : k = s.funs.length := by omega
      subst hkn
      simp
      exact retA_of hq
def nCs (l : List Nat) : List (List AV) := l.map fun v : Nat => [I (v : Int)]
theorem set_one {h : Heap} {p : Nat} {x y : AV} (hp : h p = some (.arr 1 [[x]])) {k : Heap → Prop} (hk : k (h.set p (.arr 1 [[y]]))) : storeG (.op p 0 0) [y] h k := by
  rw [w_store hp]
  exact ⟨by simp, by simp, hk⟩
theorem load_one {h : Heap} {p : Nat} {x : AV} (hp : h p = some (.arr 1 [[x]])) {k : AV → Prop} (hk : k x) : loadV (.op p 0 0) h k := by
  rw [w_loadV_op hp]
  exact ⟨by simp, by omega, hk⟩
end Am
