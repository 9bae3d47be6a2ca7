/- What a pattern matches, and the two functions that match. -/
import Derived.Test.YtoifckjdnldlpaaGreatZGe
import Derived.Test.YtoifckjdnldlpaaGreatZFV
set_option linter.unusedVariables false
set_option linter.unusedSimpArgs false
namespace Am
open Go Go.Proofs.Tryz
open Rt (eqR eqRL eqR_iff)
abbrev Es := List (Int × Tm)
def lkI : Es → Int → Option Tm
  | [], _ => none
  | e :: es, k => if k = e.1 then some e.2 else lkI es k
mutual
def mtch : Tm → Tm → Es → Option Es
  | .mk a us, t, es =>
    if t.kids.length < us.length then none
    else if a.1 = 0 then
      match lkI es a.2 with
      | some v => if eqR v (.mk t.lab (t.kids.take (t.kids.length - us.length))) then mtchL us (t.kids.drop (t.kids.length - us.length)) es else none
      | none => mtchL us (t.kids.drop (t.kids.length - us.length)) (es ++ [(a.2, .mk t.lab (t.kids.take (t.kids.length - us.length)))])
    else if t.kids.length = us.length ∧ a = t.lab then mtchL us (t.kids.drop (t.kids.length - us.length)) es else none
def mtchL : List Tm → List Tm → Es → Option Es
  | [], _, es => some es
  | u :: us, vs, es => match mtch u (vs.headD default) es with
    | some es' => mtchL us vs.tail es'
    | none => none
end
def Bd (es : Es) : Prop := ∀ e, e ∈ es → e.2.nodes ≤ 100000
theorem lkI_bd {es : Es} (h : Bd es) {k : Int} {v : Tm} (hl : lkI es k = some v) : v.nodes ≤ 100000 := by
  induction es with
  | nil => simp [lkI] at hl
  | cons e es ih =>
    simp only [lkI] at hl
    by_cases c : k = e.1
    · rw [if_pos c] at hl; cases hl; exact h e (by simp)
    · rw [if_neg c] at hl; exact ih (fun x hx => h x (by simp [hx])) hl
def mpI (es : Es) : Node := .map (es.map fun e => (I e.1, tm e.2))
theorem eqKey_I (a b : Int) : eqKey [.int .i64] (I a) (I b) = some (decide (a = b)) := by
  simp only [eqKey, eqCell]
  by_cases h : a = b
  · subst h; simp
  · have : (a == b) = false := by simpa using h
    simp [this, h]
theorem findI_none {es : Es} {k : Int} (h : lkI es k = none) : ∀ i, findA [.int .i64] (I k) (es.map fun e => (I e.1, tm e.2)) i = some none := by
  induction es with
  | nil => intro i; rfl
  | cons e es ih =>
    intro i
    simp only [lkI] at h
    by_cases c : k = e.1
    · rw [if_pos c] at h; cases h
    · rw [if_neg c] at h
      simp only [List.map_cons, findA, eqKey_I, c, decide_false]
      exact ih h _
theorem findI_some {es : Es} {k : Int} {v : Tm} (h : lkI es k = some v) : ∀ i, ∃ j, es[j]? = some (k, v) ∧ findA [.int .i64] (I k) (es.map fun e => (I e.1, tm e.2)) i = some (some (i + j)) := by
  induction es with
  | nil => simp [lkI] at h
  | cons e es ih =>
    intro i
    simp only [lkI] at h
    by_cases c : k = e.1
    · rw [if_pos c] at h; cases h
      exact ⟨0, by simp [c], by simp [findA, eqKey_I, c]⟩
    · rw [if_neg c] at h
      obtain ⟨j, h1, h2⟩ := ih h (i + 1)
      refine ⟨j + 1, by simpa using h1, ?_⟩
      simp only [List.map_cons, findA, eqKey_I, c, decide_false]
      rw [h2]; simp; omega
section
variable {h : Heap} {es : Es} {m : Nat} {k : Int}
theorem lookI_none {z : AV} {K : AV → Prop} (hm : h m = some (mpI es)) (hl : lkI es k = none) (hq : K (.tup [z, B false])) : lookA [.int .i64] true z (.mp m) (I k) h K := by
  unfold lookA mapA
  simp only [hm, mpI, findI_none hl]
  simpa using hq
theorem lookI_some {z : AV} {v : Tm} {K : AV → Prop} (hm : h m = some (mpI es)) (hl : lkI es k = some v) (hq : K (.tup [tm v, B true])) : lookA [.int .i64] true z (.mp m) (I k) h K := by
  unfold lookA mapA
  obtain ⟨j, h1, h2⟩ := findI_some hl 0
  simp only [hm, mpI, h2]
  simpa [eval2, List.getD_eq_getElem?_getD, h1] using hq
theorem updI_none {v : Tm} {K : Heap → Prop} (hm : h m = some (mpI es)) (hl : lkI es k = none) (hq : K (h.set m (mpI (es ++ [(k, v)])))) : updA [.int .i64] (.mp m) (I k) (tm v) h K := by
  unfold updA mapA
  simp only [hm, mpI, findI_none hl]
  simpa [mpI] using hq
theorem updI_some {v : Tm} {K : Heap → Prop} (hm : h m = some (mpI es)) (hl : lkI es k = some v) (hq : K h) : updA [.int .i64] (.mp m) (I k) (tm v) h K := by
  unfold updA mapA
  obtain ⟨j, h1, h2⟩ := findI_some hl 0
  simp only [hm, mpI, h2]
  have : (es.map fun e => (I e.1, tm e.2)).set (0 + j) (I k, tm v) = es.map fun e => (I e.1, tm e.2) := by
    rw [Nat.zero_add]
    refine List.ext_getElem? fun i => ?_
    rw [List.getElem?_set]
    split
    · rename_i e; subst e
      have : j < es.length := by
        rw [List.getElem?_eq_some_iff] at h1; exact h1.1
      rw [List.getElem?_eq_getElem this] at h1
      simp [this, Option.some.inj h1]
    · rfl
  rw [this, ← show mpI es = .map (es.map fun e => (I e.1, tm e.2)) from rfl, Heap.set_id hm]
  exact hq
end
def SP (fid : FuncId) (x : AV) (id : Nat) (N : Es → Node) (u : Tm) : Prop := ∀ (t : Tm) (es : Es) {h : Heap} {Q : AV → Heap → Prop}, h id = some (N es) → u.nodes ≤ 1000000000 → t.nodes ≤ 100000 → Bd es →
  (mtch u t es = none → ∀ es', Q (B false) (h.set id (N es'))) → (∀ es', mtch u t es = some es' → Bd es' → Q (B true) (h.set id (N es'))) → ACalls prog fid [tm u, tm t, x] h Q
theorem mtchL_step {us vs : List Tm} {x k : Nat} {es : Es} (hk : k < us.length) (hx : x + k < vs.length) : mtchL (us.drop k) (vs.drop (x + k)) es = match mtch us[k] vs[x + k] es with
    | some es' => mtchL (us.drop (k + 1)) (vs.drop (x + (k + 1))) es'
    | none => none := by
  rw [List.drop_eq_getElem_cons hk, List.drop_eq_getElem_cons hx, mtchL]
  rfl
section
variable {fid : FuncId} {a2 : AV} {id : Nat} {N : Es → Node} {us vs : List Tm} {x : Nat}
theorem mloop (ih : ∀ u, u ∈ us → SP fid a2 id N u) (hx : x + us.length = vs.length) (hu : Rt.nodesL us ≤ 1000000000) (hv : Rt.nodesL vs ≤ 100000) {es : Es} {h : Heap} {Q : AV → Heap → Prop} (hm : h id = some (N es)) (hb : Bd es)
    (h0 : mtchL us (vs.drop x) es = none → ∀ es', Q (B false) (h.set id (N es'))) (h1 : ∀ es', mtchL us (vs.drop x) es = some es' → Bd es' → Q (B true) (h.set id (N es'))) :
    loopS (fun s_24 h_25 K_26 =>
      binA .lss (g s_24 0) (I (us.length : Nat)) fun x_27 =>
      brA x_27 (idxA 3 (.rs 3 (tmCs us)) (g s_24 0) h_25 fun p_28 =>
      loadG 3 p_28 h_25 fun c_29 =>
      binA .add (I (x : Nat)) (g s_24 0) fun x_30 =>
      idxA 3 (.rs 3 (tmCs vs)) x_30 h_25 fun p_31 =>
      loadG 3 p_31 h_25 fun c_32 =>
      callS prog fid [(.agg [(g c_29 0), (g c_29 1), (g c_29 2)]), (.agg [(g c_32 0), (g c_32 1), (g c_32 2)]), a2] h_25 fun r_33 h_34 =>
      notA r_33 fun x_35 =>
      brA x_35 (retA (B false) h_34 Q) (binA .add (g s_24 0) (I 1) fun x_36 =>
      K_26 [x_36] h_34)) (retA (B true) h_25 Q)) [(I 0)] h := by
  have hul := Rt.length_le us
  have hvl := Rt.length_le vs
  refine loop_up us.length (fun k σ' h' => σ' = [I k] ∧ ∃ es', h' = h.set id (N es') ∧ Bd es' ∧ mtchL us (vs.drop x) es = mtchL (us.drop k) (vs.drop (x + k)) es') ⟨rfl, es, (Heap.set_id hm).symm, hb, by simp⟩ (fun k σ' h' ⟨e, _⟩ => by rw [e]; rfl) ?_
  rintro k σ' h' K hk ⟨rfl, es', rfl, hb', he⟩ hK
  simp only [g_0]
  by_cases hlt : k < us.length
  · have hlt' : (k : Int) < us.length := by omega
    have hxk : x + k < vs.length := by omega
    simp only [w_lss, hlt', decide_true, w_brA, if_true]
    refine ix_rs (by simpa using hlt) (tmCs_get hlt) ?_
    rw [w_loadG_ro]
    refine ⟨by simp, ?_⟩
    rw [w_add, wrap_i64 (by omega) (by omega), show ((x : Nat) : Int) + (k : Nat) = ((x + k : Nat) : Int) by simp]
    refine ix_rs (by simpa using hxk) (tmCs_get hxk) ?_
    rw [w_loadG_ro]
    refine ⟨by simp, ?_⟩
    simp only [List.drop_zero, tmC_0, tmC_1, tmC_2, tm_eta]
    have hu1 := kid_nodes hlt
    have hv1 := kid_nodes hxk
    rw [mtchL_step hlt hxk] at he
    refine callS_of (ih us[k] (List.getElem_mem hlt) vs[x + k] es' (Heap.set_same _ _ _) (by omega) (by omega) hb' (fun hn es2 => ?_) fun es2 hs hb2 => ?_)
    · rw [hn] at he
      simp only [w_notA, Bool.not_false, w_brA, if_true]
      rw [Heap.set_set]
      exact retA_of (h0 he es2)
    · rw [hs] at he
      simp only [w_notA, Bool.not_true, w_brA, Bool.false_eq_true, if_false]
      rw [w_add, wrap_k (k := k) (by omega), Heap.set_set]
      exact hK hlt _ _ ⟨rfl, es2, rfl, hb2, he⟩
  · have hke : k = us.length := by omega
    subst hke
    simp only [w_lss, Int.lt_irrefl, decide_false, w_brA, Bool.false_eq_true, if_false]
    rw [List.drop_of_length_le (Nat.le_refl _), mtchL] at he
    exact retA_of (h1 es' he hb')
end
end Am
set_option linter.unusedVariables false
set_option linter.unusedSimpArgs false
namespace Am
open Go Go.Proofs.Tryz
open Rt (eqR eqRL eqR_iff)
theorem tmCs_take (l : List Tm) (k : Nat) : (tmCs l).take k = tmCs (l.take k) := by rw [tmCs_eq, tmCs_eq, List.map_take]
theorem nodesL_take (l : List Tm) (k : Nat) : Rt.nodesL (l.take k) ≤ Rt.nodesL l := Rt.nodesL_take_le l k
theorem mtch_mk (a b : Int × Int) (us vs : List Tm) (es : Es) : mtch (.mk a us) (.mk b vs) es = if vs.length < us.length then none
    else if a.1 = 0 then
      match lkI es a.2 with
      | some v => if eqR v (.mk b (vs.take (vs.length - us.length))) = true then mtchL us (vs.drop (vs.length - us.length)) es else none
      | none => mtchL us (vs.drop (vs.length - us.length)) (es ++ [(a.2, .mk b (vs.take (vs.length - us.length)))])
    else if vs.length = us.length ∧ a = b then mtchL us (vs.drop (vs.length - us.length)) es else none := by rw [mtch]; rfl
theorem flow_match_c (m : Nat) (pat : Tm) : SP n_flow_match (.mp m) m mpI pat := by
  refine Rt.ind (P := fun u => SP n_flow_match (.mp m) m mpI u) (fun a us ih => ?_) pat
  intro t es h Q hm hun ht hb h0 h1
  obtain ⟨b, vs⟩ := t
  simp only [Rt.nodes] at hun ht
  have hul := Rt.length_le us
  have hvl := Rt.length_le vs
  simp only [mtch_mk] at h0 h1
  refine flow_match_call ?_
  unfold flow_match tm
  simp only [tmC, w_agg, List.length_cons, List.length_nil, true_and, g_0, g_1, g_2, w_len_rs, tmCs_len, w_sub]
  rw [wrap_i64 (n := (vs.length : Int) - us.length) (by omega) (by omega)]
  simp only [w_lss, w_brA, w_neq]
  have idh : h.set m (mpI es) = h := Heap.set_id hm
  by_cases hlt : vs.length < us.length
  · have hlt' : (vs.length : Int) - us.length < 0 := by omega
    simp only [hlt', decide_true, if_true]
    rw [if_pos hlt] at h0
    have := h0 rfl es
    rw [idh] at this
    exact retA_of this
  have hlt' : ¬ (vs.length : Int) - us.length < 0 := by omega
  simp only [hlt', decide_false, Bool.false_eq_true, if_false]
  rw [if_neg hlt] at h0 h1
  obtain ⟨x, hx⟩ : ∃ x, x = vs.length - us.length := ⟨_, rfl⟩
  have exI : (vs.length : Int) - us.length = (x : Nat) := by omega
  rw [← hx] at h0 h1
  rw [exI]
  have hxl : x + us.length = vs.length := by omega
  by_cases ha : a.1 = 0
  · simp only [ha, decide_true, Bool.not_true, Bool.false_eq_true, if_false, w_eql, w_brA, if_true]
    rw [if_pos ha] at h0 h1
    refine ⟨rfl, by omega, by omega, by omega, by rw [tmCs_len]; omega, ?_⟩
    rw [Int.toNat_natCast, tmCs_take]
    simp only [w_one_v, w_one_rs]
    have erest : (.agg [I b.1, I b.2, .rs 3 (tmCs (vs.take x))] : AV) = tm (.mk b (vs.take x)) := rfl
    have hrn : (Rt.mk b (vs.take x)).nodes ≤ 100000 := by
      have := nodesL_take vs x
      simp only [Rt.nodes]; omega
    cases hl : lkI es a.2 with
    | some v =>
      rw [hl] at h0 h1
      refine lookI_some hm hl (tp0 (tp1 ?_))
      unfold tm
      rw [tmC_eq]
      simp only [w_agg, List.length_cons, List.length_nil, true_and, g_0, g_1, g_2, w_brA, if_true]
      rw [tm_eta, erest]
      refine callS_of (term_Same_c v _ ?_)
      have hvn := lkI_bd hb hl
      have c1 : decide (v.nodes ≤ 100000) = true := decide_eq_true hvn
      have c2 : decide ((Rt.mk b (vs.take x)).nodes ≤ 100000) = true := decide_eq_true hrn
      rw [c1, c2]
      simp only [Bool.true_and, w_notA, w_brA]
      by_cases he : eqR v (.mk b (vs.take x)) = true
      · simp only [he, if_true] at h0 h1
        simp only [he, Bool.not_true, Bool.false_eq_true, if_false]
        have hvv : v = .mk b (vs.take x) := (eqR_iff _ _).1 he
        subst hvv
        refine updI_some hm hl ?_
        exact mloop ih hxl (by omega) (by omega) hm hb h0 h1
      · have he' : eqR v (.mk b (vs.take x)) = false := by simpa using he
        simp only [he', Bool.false_eq_true, if_false] at h0
        simp only [he', Bool.not_false, if_true]
        have := h0 trivial es
        rw [idh] at this
        exact retA_of this
    | none =>
      rw [hl] at h0 h1
      refine lookI_none hm hl (tp0 (tp1 ?_))
      simp only [w_agg, List.length_cons, List.length_nil, true_and, g_0, g_1, g_2, w_brA, Bool.false_eq_true, if_false]
      rw [erest]
      refine updI_none hm hl ?_
      refine mloop ih hxl (by omega) (by omega) (Heap.set_same _ _ _) (fun e he => ?_) (fun hn es' => ?_) fun es' hs hb' => ?_
      · rcases List.mem_append.1 he with he | he
        · exact hb e he
        · have : e = (a.2, .mk b (vs.take x)) := by simpa using he
          subst this; exact hrn
      · rw [Heap.set_set]; exact h0 hn es'
      · rw [Heap.set_set]; exact h1 es' hs hb'
  · simp only [ha, decide_false, Bool.not_false, if_true, w_gtr, w_brA]
    rw [if_neg ha] at h0 h1
    have fls : ¬ (vs.length = us.length ∧ a = b) → retA (B false) h Q := fun hc => by
      rw [if_neg hc] at h0
      have := h0 rfl es
      rw [idh] at this
      exact retA_of this
    by_cases hx0 : 0 < x
    · have : (0 : Int) < (x : Nat) := by omega
      simp only [this, decide_true, if_true]
      exact fls fun hc => by omega
    have : ¬ (0 : Int) < (x : Nat) := by omega
    simp only [this, decide_false, Bool.false_eq_true, if_false]
    by_cases e1 : a.1 = b.1
    case neg =>
      simp only [e1, decide_false, Bool.not_false, if_true]
      exact fls fun hc => e1 (by rw [hc.2])
    have e1' : b.1 = 0 ↔ False := by rw [← e1]; simp [ha]
    simp only [e1, decide_true, Bool.not_true, Bool.false_eq_true, if_false]
    by_cases e2 : a.2 = b.2
    case neg =>
      simp only [e2, decide_false, Bool.not_false, if_true]
      exact fls fun hc => e2 (by rw [hc.2])
    simp only [e2, decide_true, Bool.not_true, Bool.false_eq_true, if_false, w_eql, w_brA, e1', decide_false]
    have hc : vs.length = us.length ∧ a = b := ⟨by omega, Prod.ext e1 e2⟩
    rw [if_pos hc] at h0 h1
    exact mloop ih hxl (by omega) (by omega) hm hb h0 h1
end Am
