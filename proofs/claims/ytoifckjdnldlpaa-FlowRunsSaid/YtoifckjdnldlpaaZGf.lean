/- What a pattern matches, and the two functions that match. -/
import Derived.Test.YtoifckjdnldlpaaZGe
import Derived.Test.YtoifckjdnldlpaaZFV
set_option linter.unusedVariables false
set_option linter.unusedSimpArgs false
namespace Am
open Go Go.Proofs.Try
open Rt (eqR eqRL eqR_iff)
abbrev Es := List (Int × Tm)
def lkI : Es → Int → Option Tm
  | [], _ => none
  | e :: es, k => if k = e.1 then some e.2 else lkI es k
mutual
def mtch : Tm → Tm → Es → Option Es
  | .mk a us, t, es =>
    if t.kids.length < us.length then none
    else if a.1 = 0 then
      match lkI es a.2 with
      | some v => if eqR v (.mk t.lab (t.kids.take (t.kids.length - us.length))) then mtchL us (t.kids.drop (t.kids.length - us.length)) es else none
      | none => mtchL us (t.kids.drop (t.kids.length - us.length)) (es ++ [(a.2, .mk t.lab (t.kids.take (t.kids.length - us.length)))])
    else if t.kids.length = us.length ∧ a = t.lab then mtchL us (t.kids.drop (t.kids.length - us.length)) es else none
def mtchL : List Tm → List Tm → Es → Option Es
  | [], _, es => some es
  | u :: us, vs, es => match mtch u (vs.headD default) es with
    | some es' => mtchL us vs.tail es'
    | none => none
end
def Bd (es : Es) : Prop := ∀ e, e ∈ es → e.2.nodes ≤ 100000
theorem lkI_bd {es : Es} (h : Bd es) {k : Int} {v : Tm} (hl : lkI es k = some v) : v.nodes ≤ 100000 := by
  induction es with
  | nil => simp [lkI] at hl
  | cons e es ih =>
    simp only [lkI] at hl
    by_cases c : k = e.1
    · rw [if_pos c] at hl; cases hl; exact h e (by simp)
    · rw [if_neg c] at hl; exact ih (fun x hx => h x (by simp [hx])) hl
theorem lkI_app {es : Es} {k : Int} {v : Tm} (hl : lkI es k = none) (j : Int) : lkI (es ++ [(k, v)]) j = if j = k then some v else lkI es j := by
  induction es with
  | nil => simp [lkI]
  | cons e es ih =>
    simp only [lkI, List.cons_append] at hl ⊢
    by_cases c : k = e.1
    · rw [if_pos c] at hl; cases hl
    · rw [if_neg c] at hl
      rw [ih hl]
      by_cases c2 : j = e.1
      · have : ¬ j = k := fun x => c (x ▸ c2)
        rw [if_pos c2, if_neg this, if_pos c2]
      · rw [if_neg c2, if_neg c2]
def mpI (es : Es) : Node := .map (es.map fun e => (I e.1, tm e.2))
theorem eqKey_I (a b : Int) : eqKey [.int .i64] (I a) (I b) = some (decide (a = b)) := by
  simp only [eqKey, eqCell]
  by_cases h : a = b
  · subst h; simp
  · have : (a == b) = false := by simpa using h
    simp [this, h]
theorem findI_none {es : Es} {k : Int} (h : lkI es k = none) : ∀ i, findA [.int .i64] (I k) (es.map fun e => (I e.1, tm e.2)) i = some none := by
  induction es with
  | nil => intro i; rfl
  | cons e es ih =>
    intro i
    simp only [lkI] at h
    by_cases c : k = e.1
    · rw [if_pos c] at h; cases h
    · rw [if_neg c] at h
      simp only [List.map_cons, findA, eqKey_I, c, decide_false]
      exact ih h _
theorem findI_some {es : Es} {k : Int} {v : Tm} (h : lkI es k = some v) : ∀ i, ∃ j, es[j]? = some (k, v) ∧ findA [.int .i64] (I k) (es.map fun e => (I e.1, tm e.2)) i = some (some (i + j)) := by
  induction es with
  | nil => simp [lkI] at h
  | cons e es ih =>
    intro i
    simp only [lkI] at h
    by_cases c : k = e.1
    · rw [if_pos c] at h; cases h
      exact ⟨0, by simp [c], by simp [findA, eqKey_I, c]⟩
    · rw [if_neg c] at h
      obtain ⟨j, h1, h2⟩ := ih h (i + 1)
      refine ⟨j + 1, by simpa using h1, ?_⟩
      simp only [List.map_cons, findA, eqKey_I, c, decide_false]
      rw [h2]; simp; omega
section
variable {h : Heap} {es : Es} {m : Nat} {k : Int}
theorem lookI_none {z : AV} {K : AV → Prop} (hm : h m = some (mpI es)) (hl : lkI es k = none) (hq : K (.tup [z, B false])) : lookA [.int .i64] true z (.mp m) (I k) h K := by
  unfold lookA mapA
  simp only [hm, mpI, findI_none hl]
  simpa using hq
theorem lookI_some {z : AV} {v : Tm} {K : AV → Prop} (hm : h m = some (mpI es)) (hl : lkI es k = some v) (hq : K (.tup [tm v, B true])) : lookA [.int .i64] true z (.mp m) (I k) h K := by
  unfold lookA mapA
  obtain ⟨j, h1, h2⟩ := findI_some hl 0
  simp only [hm, mpI, h2]
  simpa [eval2, List.getD_eq_getElem?_getD, h1] using hq
theorem updI_none {v : Tm} {K : Heap → Prop} (hm : h m = some (mpI es)) (hl : lkI es k = none) (hq : K (h.set m (mpI (es ++ [(k, v)])))) : updA [.int .i64] (.mp m) (I k) (tm v) h K := by
  unfold updA mapA
  simp only [hm, mpI, findI_none hl]
  simpa [mpI] using hq
theorem updI_some {v : Tm} {K : Heap → Prop} (hm : h m = some (mpI es)) (hl : lkI es k = some v) (hq : K h) : updA [.int .i64] (.mp m) (I k) (tm v) h K := by
  unfold updA mapA
  obtain ⟨j, h1, h2⟩ := findI_some hl 0
  simp only [hm, mpI, h2]
  have : (es.map fun e => (I e.1, tm e.2)).set (0 + j) (I k, tm v) = es.map fun e => (I e.1, tm e.2) := by
    rw [Nat.zero_add]
    refine List.ext_getElem? fun i => ?_
    rw [List.getElem?_set]
    split
    · rename_i e; subst e
      have : j < es.length := by
        rw [List.getElem?_eq_some_iff] at h1; exact h1.1
      rw [List.getElem?_eq_getElem this] at h1
      simp [this, Option.some.inj h1]
    · rfl
  rw [this, ← show mpI es = .map (es.map fun e => (I e.1, tm e.2)) from rfl, Heap.set_id hm]
  exact hq
end
def SP (fid : FuncId) (x : AV) (id : Nat) (N : Es → Node) (u : Tm) : Prop := ∀ (t : Tm) (es : Es) {h : Heap} {Q : AV → Heap → Prop}, h id = some (N es) → u.nodes ≤ 1000000000 → t.nodes ≤ 100000 → Bd es →
  (mtch u t es = none → ∀ es', Q (B false) (h.set id (N es'))) → (∀ es', mtch u t es = some es' → Bd es' → Q (B true) (h.set id (N es'))) → ACalls prog fid [tm u, tm t, x] h Q
theorem mtchL_step {us vs : List Tm} {x k : Nat} {es : Es} (hk : k < us.length) (hx : x + k < vs.length) : mtchL (us.drop k) (vs.drop (x + k)) es = match mtch us[k] vs[x + k] es with
    | some es' => mtchL (us.drop (k + 1)) (vs.drop (x + (k + 1))) es'
    | none => none := by
  rw [List.drop_eq_getElem_cons hk, List.drop_eq_getElem_cons hx, mtchL]
  rfl
section
variable {fid : FuncId} {a2 : AV} {id : Nat} {N : Es → Node} {us vs : List Tm} {x : Nat}
theorem mloop (ih : ∀ u, u ∈ us → SP fid a2 id N u) (hx : x + us.length = vs.length) (hu : Rt.nodesL us ≤ 1000000000) (hv : Rt.nodesL vs ≤ 100000) {es : Es} {h : Heap} {Q : AV → Heap → Prop} (hm : h id = some (N es)) (hb : Bd es)
    (h0 : mtchL us (vs.drop x) es = none → ∀ es', Q (B false) (h.set id (N es'))) (h1 : ∀ es', mtchL us (vs.drop x) es = some es' → Bd es' → Q (B true) (h.set id (N es'))) :
    loopS (fun s_24 h_25 K_26 =>
      binA .lss (g s_24 0) (I (us.length : Nat)) fun x_27 =>
      brA x_27 (idxA 3 (.rs 3 (tmCs us)) (g s_24 0) h_25 fun p_28 =>
      loadG 3 p_28 h_25 fun c_29 =>
      binA .add (I (x : Nat)) (g s_24 0) fun x_30 =>
      idxA 3 (.rs 3 (tmCs vs)) x_30 h_25 fun p_31 =>
      loadG 3 p_31 h_25 fun c_32 =>
      callS prog fid [(.agg [(g c_29 0), (g c_29 1), (g c_29 2)]), (.agg [(g c_32 0), (g c_32 1), (g c_32 2)]), a2] h_25 fun r_33 h_34 =>
      notA r_33 fun x_35 =>
      brA x_35 (retA (B false) h_34 Q) (binA .add (g s_24 0) (I 1) fun x_36 =>
      K_26 [x_36] h_34)) (retA (B true) h_25 Q)) [(I 0)] h := by
  have hul := Rt.length_le us
  have hvl := Rt.length_le vs
  refine loop_up us.length (fun k σ' h' => σ' = [I k] ∧ ∃ es', h' = h.set id (N es') ∧ Bd es' ∧ mtchL us (vs.drop x) es = mtchL (us.drop k) (vs.drop (x + k)) es') ⟨rfl, es, (Heap.set_id hm).symm, hb, by simp⟩ (fun k σ' h' ⟨e, _⟩ => by rw [e]; rfl) ?_
  rintro k σ' h' K hk ⟨rfl, es', rfl, hb', he⟩ hK
  simp only [g_0]
  by_cases hlt : k < us.length
  · have hlt' : (k : Int) < us.length := by omega
    have hxk : x + k < vs.length := by omega
    simp only [w_lss, hlt', decide_true, w_brA, if_true]
    refine ix_rs (by simpa using hlt) (tmCs_get hlt) ?_
    rw [w_loadG_ro]
    refine ⟨by simp, ?_⟩
    rw [w_add, wrap_i64 (by omega) (by omega), show ((x : Nat) : Int) + (k : Nat) = ((x + k : Nat) : Int) by simp]
    refine ix_rs (by simpa using hxk) (tmCs_get hxk) ?_
    rw [w_loadG_ro]
    refine ⟨by simp, ?_⟩
    simp only [List.drop_zero, tmC_0, tmC_1, tmC_2, tm_eta]
    have hu1 := kid_nodes hlt
    have hv1 := kid_nodes hxk
    rw [mtchL_step hlt hxk] at he
    refine callS_of (ih us[k] (List.getElem_mem hlt) vs[x + k] es' (Heap.set_same _ _ _) (by omega) (by omega) hb' (fun hn es2 => ?_) fun es2 hs hb2 => ?_)
    · rw [hn] at he
      simp only [w_notA, Bool.not_false, w_brA, if_true]
      rw [Heap.set_set]
      exact retA_of (h0 he es2)
    · rw [hs] at he
      simp only [w_notA, Bool.not_true, w_brA, Bool.false_eq_true, if_false]
      rw [w_add, wrap_k (k := k) (by omega), Heap.set_set]
      exact hK hlt _ _ ⟨rfl, es2, rfl, hb2, he⟩
  · have hke : k = us.length := by omega
    subst hke
    simp only [w_lss, Int.lt_irrefl, decide_false, w_brA, Bool.false_eq_true, if_false]
    rw [List.drop_of_length_le (Nat.le_refl _), mtchL] at he
    exact retA_of (h1 es' he hb')
end
end Am
set_option linter.unusedVariables false
set_option linter.unusedSimpArgs false
namespace Am
open Go Go.Proofs.Try
open Rt (eqR eqRL eqR_iff)
theorem tmCs_take (l : List Tm) (k : Nat) : (tmCs l).take k = tmCs (l.take k) := by rw [tmCs_eq, tmCs_eq, List.map_take]
theorem nodesL_take (l : List Tm) (k : Nat) : Rt.nodesL (l.take k) ≤ Rt.nodesL l := Rt.nodesL_take_le l k
theorem mtch_mk (a b : Int × Int) (us vs : List Tm) (es : Es) : mtch (.mk a us) (.mk b vs) es = if vs.length < us.length then none
    else if a.1 = 0 then
      match lkI es a.2 with
      | some v => if eqR v (.mk b (vs.take (vs.length - us.length))) = true then mtchL us (vs.drop (vs.length - us.length)) es else none
      | none => mtchL us (vs.drop (vs.length - us.length)) (es ++ [(a.2, .mk b (vs.take (vs.length - us.length)))])
    else if vs.length = us.length ∧ a = b then mtchL us (vs.drop (vs.length - us.length)) es else none := by rw [mtch]; rfl
theorem flow_match_c (m : Nat) (pat : Tm) : SP n_flow_match (.mp m) m mpI pat := by
  refine Rt.ind (P := fun u => SP n_flow_match (.mp m) m mpI u) (fun a us ih => ?_) pat
  intro t es h Q hm hun ht hb h0 h1
  obtain ⟨b, vs⟩ := t
  simp only [Rt.nodes] at hun ht
  have hul := Rt.length_le us
  have hvl := Rt.length_le vs
  simp only [mtch_mk] at h0 h1
  refine flow_match_call ?_
  unfold flow_match tm
  simp only [tmC, w_agg, List.length_cons, List.length_nil, true_and, g_0, g_1, g_2, w_len_rs, tmCs_len, w_sub]
  rw [wrap_i64 (n := (vs.length : Int) - us.length) (by omega) (by omega)]
  simp only [w_lss, w_brA, w_neq]
  have idh : h.set m (mpI es) = h := Heap.set_id hm
  by_cases hlt : vs.length < us.length
  · have hlt' : (vs.length : Int) - us.length < 0 := by omega
    simp only [hlt', decide_true, if_true]
    rw [if_pos hlt] at h0
    have := h0 rfl es
    rw [idh] at this
    exact retA_of this
  have hlt' : ¬ (vs.length : Int) - us.length < 0 := by omega
  simp only [hlt', decide_false, Bool.false_eq_true, if_false]
  rw [if_neg hlt] at h0 h1
  obtain ⟨x, hx⟩ : ∃ x, x = vs.length - us.length := ⟨_, rfl⟩
  have exI : (vs.length : Int) - us.length = (x : Nat) := by omega
  rw [← hx] at h0 h1
  rw [exI]
  have hxl : x + us.length = vs.length := by omega
  by_cases ha : a.1 = 0
  · simp only [ha, decide_true, Bool.not_true, Bool.false_eq_true, if_false, w_eql, w_brA, if_true]
    rw [if_pos ha] at h0 h1
    refine ⟨rfl, by omega, by omega, by omega, by rw [tmCs_len]; omega, ?_⟩
    rw [Int.toNat_natCast, tmCs_take]
    simp only [w_one_v, w_one_rs]
    have erest : (.agg [I b.1, I b.2, .rs 3 (tmCs (vs.take x))] : AV) = tm (.mk b (vs.take x)) := rfl
    have hrn : (Rt.mk b (vs.take x)).nodes ≤ 100000 := by
      have := nodesL_take vs x
      simp only [Rt.nodes]; omega
    cases hl : lkI es a.2 with
    | some v =>
      rw [hl] at h0 h1
      refine lookI_some hm hl (tp0 (tp1 ?_))
      unfold tm
      rw [tmC_eq]
      simp only [w_agg, List.length_cons, List.length_nil, true_and, g_0, g_1, g_2, w_brA, if_true]
      rw [tm_eta, erest]
      refine callS_of (term_Same_c v _ ?_)
      have hvn := lkI_bd hb hl
      have c1 : decide (v.nodes ≤ 100000) = true := decide_eq_true hvn
      have c2 : decide ((Rt.mk b (vs.take x)).nodes ≤ 100000) = true := decide_eq_true hrn
      rw [c1, c2]
      simp only [Bool.true_and, w_notA, w_brA]
      by_cases he : eqR v (.mk b (vs.take x)) = true
      · simp only [he, if_true] at h0 h1
        simp only [he, Bool.not_true, Bool.false_eq_true, if_false]
        have hvv : v = .mk b (vs.take x) := (eqR_iff _ _).1 he
        subst hvv
        refine updI_some hm hl ?_
        exact mloop ih hxl (by omega) (by omega) hm hb h0 h1
      · have he' : eqR v (.mk b (vs.take x)) = false := by simpa using he
        simp only [he', Bool.false_eq_true, if_false] at h0
        simp only [he', Bool.not_false, if_true]
        have := h0 trivial es
        rw [idh] at this
        exact retA_of this
    | none =>
      rw [hl] at h0 h1
      refine lookI_none hm hl (tp0 (tp1 ?_))
      simp only [w_agg, List.length_cons, List.length_nil, true_and, g_0, g_1, g_2, w_brA, Bool.false_eq_true, if_false]
      rw [erest]
      refine updI_none hm hl ?_
      refine mloop ih hxl (by omega) (by omega) (Heap.set_same _ _ _) (fun e he => ?_) (fun hn es' => ?_) fun es' hs hb' => ?_
      · rcases List.mem_append.1 he with he | he
        · exact hb e he
        · have : e = (a.2, .mk b (vs.take x)) := by simpa using he
          subst this; exact hrn
      · rw [Heap.set_set]; exact h0 hn es'
      · rw [Heap.set_set]; exact h1 es' hs hb'
  · simp only [ha, decide_false, Bool.not_false, if_true, w_gtr, w_brA]
    rw [if_neg ha] at h0 h1
    have fls : ¬ (vs.length = us.length ∧ a = b) → retA (B false) h Q := fun hc => by
      rw [if_neg hc] at h0
      have := h0 rfl es
      rw [idh] at this
      exact retA_of this
    by_cases hx0 : 0 < x
    · have : (0 : Int) < (x : Nat) := by omega
      simp only [this, decide_true, if_true]
      exact fls fun hc => by omega
    have : ¬ (0 : Int) < (x : Nat) := by omega
    simp only [this, decide_false, Bool.false_eq_true, if_false]
    by_cases e1 : a.1 = b.1
    case neg =>
      simp only [e1, decide_false, Bool.not_false, if_true]
      exact fls fun hc => e1 (by rw [hc.2])
    have e1' : b.1 = 0 ↔ False := by rw [← e1]; simp [ha]
    simp only [e1, decide_true, Bool.not_true, Bool.false_eq_true, if_false]
    by_cases e2 : a.2 = b.2
    case neg =>
      simp only [e2, decide_false, Bool.not_false, if_true]
      exact fls fun hc => e2 (by rw [hc.2])
    simp only [e2, decide_true, Bool.not_true, Bool.false_eq_true, if_false, w_eql, w_brA, e1', decide_false]
    have hc : vs.length = us.length ∧ a = b := ⟨by omega, Prod.ext e1 e2⟩
    rw [if_pos hc] at h0 h1
    exact mloop ih hxl (by omega) (by omega) hm hb h0 h1
end Am
set_option linter.unusedVariables false
set_option linter.unusedSimpArgs false
namespace Am
open Go Go.Proofs.Try
open Rt (eqR eqRL eqR_iff eqR_refl)
inductive Ins (s : Sch) (R : Nat → Prop) : Pc → Tm → Prop
  | mk {p : Pc} {θ : List Tm} (q : Nat → Pc) (hp : okP s p) (hr : R p.1) (hc : ∀ i, i < ar s p.1 → FlP s R true (p.1, i) (q i)) (h : ∀ i, i < ar s p.1 → Ins s R (q i) (θ.getD i default)) : Ins s R p (sub θ (ndS s p).1)
structure Gd (s : Sch) (R : Nat → Prop) (p : Pc) (t : Tm) : Prop where
  le : nA s p ≤ t.kids.length
  alt : (∃ g : Nat, t.lab = (1, (g : Int)) ∧ R g ∧ FlP s R false p (g, t.kids.length - nA s p) ∧ ∀ j, j < t.kids.length → ∃ q, FlP s R true (g, j) q ∧ Ins s R q (t.kids.getD j default)) ∨
    (t.lab.1 = 2 ∧ (∀ x, x ∈ (hsort s p).kids → x = so) ∧ ∀ j, j < t.kids.length → ∃ q, tyP s q = so ∧ Ins s R q (t.kids.getD j default))
theorem nd_fcs (t : Tm) : ∀ e i, e ∈ ndF i t → ∀ g, e.1.lab = (1, g) → g ∈ fcs t := by
  refine Rt.ind (P := fun t => ∀ e i, e ∈ ndF i t → ∀ g, e.1.lab = (1, g) → g ∈ fcs t) (fun a us ih => ?_) t
  intro e i he g hg
  rw [ndF, List.mem_cons] at he
  rw [fcs, List.mem_append]
  rcases he with rfl | he
  · have : a = (1, g) := hg
    subst this; exact .inl (by simp)
  · obtain ⟨q, hq, e1⟩ := List.mem_iff_getElem.1 he
    have hq2 : q < Rt.nodesL us := by rwa [ndFL_len'] at hq
    obtain ⟨m, hm, r, hr, e2⟩ := nodesL_find hq2
    have := ndFL_get (i := i + 1) hm hr
    rw [← e2, List.getElem?_eq_getElem hq, e1] at this
    have hmem := List.mem_of_getElem? this.symm
    exact .inr (fcsL_mem.2 ⟨us[m], List.getElem_mem hm, ih us[m] (List.getElem_mem hm) _ _ hmem g hg⟩)
theorem getD_map_sub {θ us : List Tm} {j : Nat} (hj : j < us.length) : (us.map (sub θ)).getD j default = sub θ us[j] := by
  simp [List.getD_eq_getElem?_getD, hj]
section
variable {s : Sch} {bl : List Bool}
theorem Ins.good (H : SOk s) (hb : IsR s bl) {p : Pc} {t : Tm} (h : Ins s (Rb bl) p t) : Gd s (Rb bl) p t := by
  induction h with
  | @mk p θ q hp hr hc h ih =>
    have T := tyOk H hp
    obtain ⟨hn, ha⟩ := nd_args hp
    -- the arguments are instances
    have hargs : ∀ j (hj : j < (ndS s p).1.kids.length), Ins s (Rb bl) (argAt s p j) (sub θ (ndS s p).1.kids[j]) := fun j hj => by
      obtain ⟨q1, q2, q3⟩ := ha j hj
      rw [← q3]
      exact .mk q q1 hr hc h
    have el : labP s p = (ndS s p).1.lab := rfl
    have hhd := T.hd
    rw [el] at hhd
    generalize hu : (ndS s p).1 = u at *
    obtain ⟨a, us⟩ := u
    have hk : (Rt.mk a us).kids = us := rfl
    have hla : (Rt.mk a us).lab = a := rfl
    rw [hk] at hn ha hargs
    rw [hla] at hhd el
    have hpos : 0 ≤ a.2 := by
      have := hhd
      simp only [headR] at this
      by_cases c : a.2 < 0
      · simp [c] at this
      · omega
    by_cases h0 : a.1 = 0
    · obtain ⟨i, hi⟩ : ∃ i : Nat, a.2 = i := ⟨a.2.toNat, by omega⟩
      have hlab : labP s p = (0, (i : Int)) := by rw [el]; exact Prod.ext h0 hi
      obtain ⟨_, v2, v3⟩ := head_var H hp hlab
      rw [Int.toNat_natCast] at v2 v3
      have hsub : sub θ (.mk a us) = .mk (θ.getD i default).lab ((θ.getD i default).kids ++ us.map (sub θ)) := by
        rw [sub, if_pos h0, hi, Int.toNat_natCast, subL_eq]
      rw [hsub]
      have G := ih i v2
      have hci := hc i v2
      obtain ⟨c1, c2, c3, c4⟩ := (hci.typed H).2 rfl
      have Tq := tyOk H c2
      have hs1 : hsort s p = .mk () ((hsort s (q i)).kids.drop (nA s (q i))) := by
        rw [v3, ← Tq.ty]; exact c4.symm
      obtain ⟨V, hV⟩ : ∃ V, V = θ.getD i default := ⟨_, rfl⟩
      rw [← hV] at G ⊢
      have klen : (V.kids ++ us.map (sub θ)).length = V.kids.length + us.length := by simp
      have kid2 : ∀ j, V.kids.length ≤ j → j < V.kids.length + us.length → ∃ j', ∃ hj' : j' < us.length, j = V.kids.length + j' ∧ (V.kids ++ us.map (sub θ)).getD j default = sub θ us[j'] := fun j h1 h2 => by
        refine ⟨j - V.kids.length, by omega, by omega, ?_⟩
        rw [List.getD_eq_getElem?_getD, List.getElem?_append_right h1]
        have : j - V.kids.length < us.length := by omega
        simp [this]
      have kid1 : ∀ j, j < V.kids.length → (V.kids ++ us.map (sub θ)).getD j default = V.kids.getD j default := fun j h1 => by
        rw [List.getD_eq_getElem?_getD, List.getElem?_append_left h1, List.getD_eq_getElem?_getD]
      refine ⟨by show nA s p ≤ (V.kids ++ us.map (sub θ)).length; rw [klen]; omega, ?_⟩
      have hle := G.le
      rcases G.alt with ⟨g, g1, g2, g3, g4⟩ | ⟨g1, g2, g3⟩
      · left
        have hF : FlP s (Rb bl) false p (g, V.kids.length) := by
          have := FlP.var hp hlab hci g3
          have e : V.kids.length - nA s (q i) + nA s (q i) = V.kids.length := by omega
          rwa [e] at this
        obtain ⟨_, t2, t3, t4⟩ := (hF.typed H).1 rfl
        have hle2 := T.le
        rw [t4] at hle2
        simp only [kids_mk, List.length_drop] at hle2
        have har : (srtOf s g).kids.length = ar s g := rfl
        refine ⟨g, g1, g2, ?_, fun j hj => ?_⟩
        · show FlP s (Rb bl) false p (g, (V.kids ++ us.map (sub θ)).length - nA s p)
          have e : (V.kids ++ us.map (sub θ)).length - nA s p = V.kids.length := by rw [klen]; omega
          rw [e]; exact hF
        · have hj : j < (V.kids ++ us.map (sub θ)).length := hj
          rw [klen] at hj
          show ∃ q, FlP s (Rb bl) true (g, j) q ∧ Ins s (Rb bl) q ((V.kids ++ us.map (sub θ)).getD j default)
          by_cases hc : j < V.kids.length
          · rw [kid1 j hc]; exact g4 j hc
          · obtain ⟨j', hj', rfl, e2⟩ := kid2 j (by omega) hj
            rw [e2]
            exact ⟨argAt s p j', .arg hp hr hF (by omega) (by show V.kids.length + j' < ar s g; omega), hargs j' hj'⟩
      · right
        have hall : ∀ x, x ∈ (hsort s p).kids → x = so := fun x hx => by
          rw [hs1] at hx
          exact g2 x (List.mem_of_mem_drop hx)
        refine ⟨g1, hall, fun j hj => ?_⟩
        have hj : j < (V.kids ++ us.map (sub θ)).length := hj
        rw [klen] at hj
        show ∃ q, tyP s q = so ∧ Ins s (Rb bl) q ((V.kids ++ us.map (sub θ)).getD j default)
        by_cases hc : j < V.kids.length
        · rw [kid1 j hc]; exact g3 j hc
        · obtain ⟨j', hj', rfl, e2⟩ := kid2 j (by omega) hj
          rw [e2]
          refine ⟨argAt s p j', ?_, hargs j' hj'⟩
          rw [(T.arg j' (by omega)).2.2]
          have hjk : j' < (hsort s p).kids.length := by have := T.le; omega
          rw [List.getD_eq_getElem?_getD, List.getElem?_eq_getElem hjk]
          exact hall _ (List.getElem_mem hjk)
    · have hsub : sub θ (.mk a us) = .mk a (us.map (sub θ)) := by rw [sub, if_neg h0, subL_eq]
      rw [hsub]
      have klen : (us.map (sub θ)).length = us.length := by simp
      refine ⟨by show nA s p ≤ (us.map (sub θ)).length; rw [klen]; omega, ?_⟩
      by_cases h1 : a.1 = 1
      · left
        obtain ⟨g, hg⟩ : ∃ g : Nat, a.2 = g := ⟨a.2.toNat, by omega⟩
        have ha' : a = (1, (g : Int)) := Prod.ext h1 hg
        have hlab : labP s p = (1, (g : Int)) := by rw [el]; exact ha'
        have hF : FlP s (Rb bl) false p (g, 0) := .fn hp hlab
        obtain ⟨_, t2, t3, t4⟩ := (hF.typed H).1 rfl
        have hle2 := T.le
        rw [t4] at hle2
        simp only [kids_mk, List.drop_zero] at hle2
        have har : (srtOf s g).kids.length = ar s g := rfl
        refine ⟨g, ha', ?_, ?_, fun j hj => ?_⟩
        · refine (hb.2 g t2).2 (.step ((hb.2 p.1 hp.1).1 hr) hp.1 ?_)
          refine nd_fcs _ _ 0 (List.mem_of_getElem? (ndS_get hp)) _ ?_
          rw [hu]; exact ha'
        · have e : (us.map (sub θ)).length - nA s p = 0 := by rw [klen]; omega
          show FlP s (Rb bl) false p (g, (us.map (sub θ)).length - nA s p)
          rw [e]; exact hF
        · have hj : j < (us.map (sub θ)).length := hj
          rw [klen] at hj
          show ∃ q, FlP s (Rb bl) true (g, j) q ∧ Ins s (Rb bl) q ((us.map (sub θ)).getD j default)
          rw [getD_map_sub hj]
          refine ⟨argAt s p j, ?_, hargs j hj⟩
          have := FlP.arg hp hr hF (j := j) (by omega) (by show 0 + j < ar s g; omega)
          simpa using this
      · right
        have h2 : a.1 = 2 := by
          have := hhd
          simp only [headR, h0, h1, if_false] at this
          by_cases c : a.1 = 2
          · exact c
          · simp [c] at this
        have hall : ∀ x, x ∈ (hsort s p).kids → x = so := fun x hx => by
          unfold hsort at hx
          rw [el] at hx
          have hn : ¬ a.2 < 0 := by omega
          simp only [headR, if_neg hn, if_neg h0, if_neg h1, if_pos h2] at hx
          by_cases c : a.2 < ((plOf s p.1).syms.length : Nat)
          · rw [if_pos c] at hx
            exact List.eq_of_mem_replicate hx
          · rw [if_neg c] at hx
            simp [so, kids_mk] at hx
        refine ⟨h2, hall, fun j hj => ?_⟩
        have hj : j < (us.map (sub θ)).length := hj
        rw [klen] at hj
        show ∃ q, tyP s q = so ∧ Ins s (Rb bl) q ((us.map (sub θ)).getD j default)
        rw [getD_map_sub hj]
        refine ⟨argAt s p j, ?_, hargs j hj⟩
        rw [(T.arg j (by omega)).2.2]
        have hjk : j < (hsort s p).kids.length := by have := T.le; omega
        rw [List.getD_eq_getElem?_getD, List.getElem?_eq_getElem hjk]
        exact hall _ (List.getElem_mem hjk)
def Agr (θ : List Tm) (es : Es) : Prop := ∀ k v, lkI es k = some v → v = θ.getD k.toNat default
theorem mtch_sub (θ : List Tm) (u : Tm) : ∀ es, Agr θ es → ∃ es', mtch u (sub θ u) es = some es' ∧ Agr θ es' := by
  refine Rt.ind (P := fun u => ∀ es, Agr θ es → ∃ es', mtch u (sub θ u) es = some es' ∧ Agr θ es') (fun a us ih => ?_) u
  intro es hes
  have hL : ∀ (l : List Tm), (∀ u, u ∈ l → u ∈ us) → ∀ es, Agr θ es → ∃ es', mtchL l (l.map (sub θ)) es = some es' ∧ Agr θ es' := fun l => by
    induction l with
    | nil => intro _ es hes; exact ⟨es, by rw [mtchL], hes⟩
    | cons v l ihl =>
      intro hm es hes
      obtain ⟨e1, h1, h2⟩ := ih v (hm v (by simp)) es hes
      obtain ⟨e2, h3, h4⟩ := ihl (fun u hu => hm u (by simp [hu])) e1 h2
      refine ⟨e2, ?_, h4⟩
      rw [mtchL]
      simp only [List.map_cons, List.headD_cons, List.tail_cons, h1]
      exact h3
  have hL := hL us fun _ h => h
  by_cases h0 : a.1 = 0
  · obtain ⟨V, hV⟩ : ∃ V, V = θ.getD a.2.toNat default := ⟨_, rfl⟩
    have hsub : sub θ (.mk a us) = .mk V.lab (V.kids ++ us.map (sub θ)) := by rw [sub, if_pos h0, subL_eq, ← hV]
    rw [hsub, mtch_mk]
    have klen : (V.kids ++ us.map (sub θ)).length = V.kids.length + us.length := by simp
    have e1 : (V.kids ++ us.map (sub θ)).length - us.length = V.kids.length := by omega
    have e2 : (V.kids ++ us.map (sub θ)).take V.kids.length = V.kids := by simp
    have e3 : (V.kids ++ us.map (sub θ)).drop V.kids.length = us.map (sub θ) := by simp
    have e4 : (Rt.mk V.lab V.kids : Tm) = V := by cases V; rfl
    rw [if_neg (by omega), if_pos h0, e1, e2, e3, e4]
    cases hl : lkI es a.2 with
    | some v =>
      have hv : v = V := by rw [hV]; exact hes _ _ hl
      subst hv
      simp only [eqR_refl, if_true]
      exact hL es hes
    | none =>
      refine hL _ fun k v hk => ?_
      rw [lkI_app hl] at hk
      by_cases c : k = a.2
      · rw [if_pos c] at hk
        cases hk
        rw [c]; exact hV
      · rw [if_neg c] at hk
        exact hes k v hk
  · have hsub : sub θ (.mk a us) = .mk a (us.map (sub θ)) := by rw [sub, if_neg h0, subL_eq]
    have klen : (us.map (sub θ)).length = us.length := by simp
    rw [hsub, mtch_mk, if_neg (by omega), if_neg h0, if_pos ⟨klen, rfl⟩, klen, Nat.sub_self, List.drop_zero]
    exact hL es hes
theorem Ins.mtch {R : Nat → Prop} {p : Pc} {t : Tm} (h : Ins s R p t) : (mtch (ndS s p).1 t []).isSome = true := by
  cases h with
  | mk q hp hr hc h =>
    obtain ⟨es', h1, _⟩ := mtch_sub _ (ndS s p).1 [] (fun k v hk => by simp [lkI] at hk)
    rw [h1]; rfl
def GT (s : Sch) (R : Nat → Prop) (t : Tm) : Prop :=
  (∃ g : Nat, t.lab = (1, (g : Int)) ∧ g < s.funs.length ∧ R g ∧ t.kids.length = ar s g ∧ ∀ j, j < t.kids.length → ∃ q, FlP s R true (g, j) q ∧ Ins s R q (t.kids.getD j default)) ∨
    (t.lab.1 = 2 ∧ ∀ j, j < t.kids.length → ∃ q, tyP s q = so ∧ Ins s R q (t.kids.getD j default))
theorem Ins.okp {R : Nat → Prop} {p : Pc} {t : Tm} (h : Ins s R p t) : okP s p := by cases h; assumption
theorem Ins.gt (H : SOk s) (hb : IsR s bl) {p : Pc} {t : Tm} (h : Ins s (Rb bl) p t) (hty : tyP s p = so) : GT s (Rb bl) t := by
  have G := h.good H hb
  have T := tyOk H h.okp
  rcases G.alt with ⟨g, g1, g2, g3, g4⟩ | ⟨g1, g2, g3⟩
  · obtain ⟨_, t2, t3, t4⟩ := (g3.typed H).1 rfl
    have hle := T.le
    have ht := T.ty
    rw [hty] at ht
    rw [t4] at hle ht
    simp only [kids_mk, List.length_drop] at hle
    have h0 := congrArg (fun x => x.kids.length) ht
    simp only [so, kids_mk, List.length_nil, List.length_drop] at h0
    have har : (srtOf s g).kids.length = ar s g := rfl
    have hle2 := G.le
    have t3 : t.kids.length - nA s p ≤ ar s g := t3
    exact .inl ⟨g, g1, t2, g2, by omega, g4⟩
  · exact .inr ⟨g1, g3⟩
theorem nd_root {s : Sch} {f : Nat} : (ndS s (f, 0)).1 = (s.funs.getD f default).body := by
  obtain ⟨l, e⟩ := ndF_zero 0 (s.funs.getD f default).body
  simp [ndS, List.getD_eq_getElem?_getD, e] at *
  simp [e]
theorem GT.start (H : SOk s) (hb : IsR s bl) : GT s (Rb bl) (.mk (1, 0) []) := by
  have hh : headB s.funs = true := H.head
  refine .inl ⟨0, rfl, H.pos, (hb.2 0 H.pos).2 .zero, ?_, fun j hj => by simp [Rt.kids] at hj⟩
  simp only [headB, decide_eq_true_eq] at hh
  show 0 = ar s 0
  unfold ar
  have hp := H.pos
  cases hf : s.funs with
  | nil => rw [hf] at hp; simp at hp
  | cons x l => rw [hf] at hh; simpa using hh.symm
theorem GT.next (H : SOk s) (hb : IsR s bl) {g : Nat} {θ : List Tm} (hg : g < s.funs.length) (hr : Rb bl g) (hl : θ.length = ar s g) (hk : ∀ j, j < θ.length → ∃ q, FlP s (Rb bl) true (g, j) q ∧ Ins s (Rb bl) q (θ.getD j default)) : GT s (Rb bl) (sub θ (s.funs.getD g default).body) := by
  have hp : okP s (g, 0) := ⟨hg, by cases h : (s.funs.getD g default).body; simp [Rt.nodes, h]⟩
  have hty : tyP s (g, 0) = so := by
    have h1 : typedB s (s.funs.getD g default) = true := H.typed _ (getD_mem hg)
    simp only [typedB, Bool.and_eq_true, decide_eq_true_eq] at h1
    have h2 : tyP s (g, 0) = (sortR (s.place (s.funs.getD g default).sort.kids) (s.funs.getD g default).body).1 := by
      unfold tyP; rw [nd_root]; rfl
    rw [h2]
    generalize (sortR (s.place (s.funs.getD g default).sort.kids) (s.funs.getD g default).body).1 = x at *
    obtain ⟨a, us⟩ := x
    have : us = [] := List.eq_nil_of_length_eq_zero h1.2
    subst this; rfl
  have hch : ∀ j, ∃ q, j < ar s g → FlP s (Rb bl) true (g, j) q ∧ Ins s (Rb bl) q (θ.getD j default) := fun j => by
    by_cases c : j < ar s g
    · obtain ⟨q, h1, h2⟩ := hk j (by omega)
      exact ⟨q, fun _ => ⟨h1, h2⟩⟩
    · exact ⟨(0, 0), fun h => absurd h c⟩
  have I : Ins s (Rb bl) (g, 0) (sub θ (ndS s (g, 0)).1) := .mk (fun j => Classical.choose (hch j)) hp hr (fun i hi => (Classical.choose_spec (hch i) hi).1) fun i hi => (Classical.choose_spec (hch i) hi).2
  rw [nd_root] at I
  exact I.gt H hb hty
end
end Am
