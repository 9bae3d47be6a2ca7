/- Flow, plain: the nodes of a body, their sorts; what comes to what, as the least sets. -/
import Derived.Test.YtoifckjdnldlpaaGreatZFg
set_option linter.unusedVariables false
set_option linter.unusedSimpArgs false
namespace Am
open Go Go.Proofs.Tryz
open Rt (eqR eqRL eqR_iff)
theorem ixL_get {us : List Tm} : ∀ {i j : Nat}, j < us.length → (ixL i us)[j]? = some (i + Rt.nodesL (us.take j)) := by
  induction us with
  | nil => intro i j hj; simp at hj
  | cons u us ih =>
    intro i j hj
    cases j with
    | zero => simp [ixL, Rt.nodesL]
    | succ j =>
      simp only [ixL, List.getElem?_cons_succ, List.take_succ_cons, Rt.nodesL]
      rw [ih (by simpa using hj), Nat.add_assoc]
theorem ndFL_get {us : List Tm} : ∀ {i m r : Nat} (hm : m < us.length), r < us[m].nodes → (ndFL i us)[Rt.nodesL (us.take m) + r]? = (ndF (i + Rt.nodesL (us.take m)) us[m])[r]? := by
  induction us with
  | nil => intro i m r hm; simp at hm
  | cons u us ih =>
    intro i m r hm hr
    cases m with
    | zero =>
      simp only [List.take_zero, Rt.nodesL, Nat.zero_add, ndFL, List.getElem_cons_zero, Nat.add_zero] at hr ⊢
      rw [List.getElem?_append_left (by rw [ndF_len]; exact hr)]
    | succ m =>
      simp only [List.take_succ_cons, Rt.nodesL, ndFL, List.getElem_cons_succ] at hr ⊢
      rw [List.getElem?_append_right (by rw [ndF_len]; omega), ndF_len]
      have : u.nodes + Rt.nodesL (us.take m) + r - u.nodes = Rt.nodesL (us.take m) + r := by omega
      rw [this, ih (by simpa using hm) hr, Nat.add_assoc]
theorem nodesL_find {us : List Tm} : ∀ {q : Nat}, q < Rt.nodesL us → ∃ m, ∃ hm : m < us.length, ∃ r, r < us[m].nodes ∧ q = Rt.nodesL (us.take m) + r := by
  induction us with
  | nil => intro q hq; simp [Rt.nodesL] at hq
  | cons u us ih =>
    intro q hq
    simp only [Rt.nodesL] at hq
    by_cases h : q < u.nodes
    · exact ⟨0, by simp, q, h, by simp [Rt.nodesL]⟩
    · obtain ⟨m, hm, r, hr, e⟩ := ih (q := q - u.nodes) (by omega)
      exact ⟨m + 1, by simpa using hm, r, by simpa using hr, by simp only [List.take_succ_cons, Rt.nodesL]; omega⟩
theorem ndF_zero (i : Nat) (t : Tm) : ∃ l, (ndF i t)[0]? = some (t, l) := by
  cases t with
  | mk a us => exact ⟨_, by simp [ndF]; rfl⟩
theorem ndF_get (t : Tm) : ∀ i q, q < t.nodes → ∃ u l, (ndF i t)[q]? = some (u, l) ∧ l.length = u.kids.length ∧ ∀ j (hj : j < u.kids.length), ∃ a, l[j]? = some (i + a) ∧ q < a ∧ a < t.nodes ∧ ∃ l', (ndF i t)[a]? = some (u.kids[j], l') := by
  refine Rt.ind (P := fun t => ∀ i q, q < t.nodes → ∃ u l, (ndF i t)[q]? = some (u, l) ∧ l.length = u.kids.length ∧ ∀ j (hj : j < u.kids.length), ∃ a, l[j]? = some (i + a) ∧ q < a ∧ a < t.nodes ∧ ∃ l', (ndF i t)[a]? = some (u.kids[j], l')) (fun a us ih => ?_) t
  intro i q hq
  simp only [Rt.nodes] at hq ⊢
  cases q with
  | zero =>
    refine ⟨.mk a us, ixL (i + 1) us, by simp [ndF], by simp [ixL_len, Rt.kids], fun j hj => ?_⟩
    have hj : j < us.length := hj
    refine ⟨1 + Rt.nodesL (us.take j), by rw [ixL_get hj, Nat.add_assoc], by omega, ?_, ?_⟩
    · have := Rt.nodesL_take_succ hj
      have h2 := Rt.nodesL_take_le us (j + 1)
      have := Rt.nodes_pos us[j]
      omega
    · obtain ⟨l', hl'⟩ := ndF_zero (i + 1 + Rt.nodesL (us.take j)) us[j]
      refine ⟨l', ?_⟩
      have := ndFL_get (i := i + 1) hj (r := 0) (Rt.nodes_pos us[j])
      rw [hl'] at this
      simp only [ndF, Nat.add_comm 1, List.getElem?_cons_succ]
      exact this
  | succ q =>
    obtain ⟨m, hm, r, hr, e⟩ := nodesL_find (us := us) (q := q) (by omega)
    obtain ⟨u, l, h1, h2, h3⟩ := ih us[m] (List.getElem_mem hm) (i + 1 + Rt.nodesL (us.take m)) r hr
    have hb := Rt.nodesL_take_succ hm
    have hb2 := Rt.nodesL_take_le us (m + 1)
    refine ⟨u, l, ?_, h2, fun j hj => ?_⟩
    · rw [← ndFL_get (i := i + 1) hm hr] at h1
      simp only [ndF, List.getElem?_cons_succ, e]
      exact h1
    · obtain ⟨a', q1, q2, q3, l', q4⟩ := h3 j hj
      refine ⟨1 + Rt.nodesL (us.take m) + a', by rw [q1]; congr 1; omega, by omega, by omega, l', ?_⟩
      rw [← ndFL_get (i := i + 1) hm q3] at q4
      have : 1 + Rt.nodesL (us.take m) + a' = Rt.nodesL (us.take m) + a' + 1 := by omega
      rw [this]
      simp only [ndF, List.getElem?_cons_succ]
      exact q4
theorem sortR_inv {p : Pl} {a : Int × Int} {us : List Tm} (h : (sortR p (.mk a us)).2 = true) :
    (headR p a).2 = true ∧ us.length ≤ (headR p a).1.kids.length ∧ (sortR p (.mk a us)).1 = .mk () ((headR p a).1.kids.drop us.length) ∧
      ∀ j (hj : j < us.length) (hk : j < (headR p a).1.kids.length), (sortR p us[j]).2 = true ∧ (sortR p us[j]).1 = (headR p a).1.kids[j] := by
  simp only [sortR] at h ⊢
  by_cases hc : ((headR p a).2 && decide (us.length ≤ (headR p a).1.kids.length) && argsB p us (headR p a).1.kids) = true
  · rw [if_pos hc]
    simp only [Bool.and_eq_true, decide_eq_true_eq] at hc
    obtain ⟨⟨h1, h2⟩, h3⟩ := hc
    refine ⟨h1, h2, rfl, ?_⟩
    generalize (headR p a).1.kids = ks at *
    have key : ∀ j, j ≤ us.length → argsB p (us.drop j) (ks.drop j) = true := fun j => by
      induction j with
      | zero => intro _; simpa using h3
      | succ j ih =>
        intro hj
        have := ih (by omega)
        rw [argsB_drop (by omega) (by omega)] at this
        simp only [Bool.and_eq_true] at this
        exact this.2
    intro j hj hk
    have := key j (by omega)
    rw [argsB_drop hj hk] at this
    simp only [Bool.and_eq_true] at this
    exact ⟨this.1.1, (eqR_iff _ _).1 this.1.2⟩
  · rw [if_neg hc] at h; cases h
theorem ndF_typed {p : Pl} (t : Tm) : (sortR p t).2 = true → ∀ e i, e ∈ ndF i t → (sortR p e.1).2 = true := by
  refine Rt.ind (P := fun t => (sortR p t).2 = true → ∀ e i, e ∈ ndF i t → (sortR p e.1).2 = true) (fun a us ih => ?_) t
  intro h e i he
  obtain ⟨h1, h2, _, h3⟩ := sortR_inv h
  rw [ndF, List.mem_cons] at he
  rcases he with rfl | he
  · exact h
  · obtain ⟨q, hq, e1⟩ := List.mem_iff_getElem.1 he
    have hq2 : q < Rt.nodesL us := by rwa [ndFL_len'] at hq
    obtain ⟨m, hm, r, hr, e2⟩ := nodesL_find hq2
    have := ndFL_get (i := i + 1) hm hr
    rw [← e2, List.getElem?_eq_getElem hq, e1] at this
    have hmem := List.mem_of_getElem? this.symm
    exact ih us[m] (List.getElem_mem hm) (h3 m hm (by omega)).1 _ _ hmem
def srtOf (s : Sch) (f : Nat) : Srt := (s.funs.getD f default).sort
def plOf (s : Sch) (f : Nat) : Pl := s.place (srtOf s f).kids
def labP (s : Sch) (p : Pc) : Int × Int := (ndS s p).1.lab
def hsort (s : Sch) (p : Pc) : Srt := (headR (plOf s p.1) (labP s p)).1
def tyP (s : Sch) (p : Pc) : Srt := (sortR (plOf s p.1) (ndS s p).1).1
def argAt (s : Sch) (p : Pc) (j : Nat) : Pc := (p.1, (ndS s p).2.getD j 0)
theorem ndS_get {s : Sch} {p : Pc} (hp : okP s p) : (ndF 0 (s.funs.getD p.1 default).body)[p.2]? = some (ndS s p) := by
  have : p.2 < (ndF 0 (s.funs.getD p.1 default).body).length := by rw [ndF_len]; exact hp.2
  unfold ndS
  generalize ndF 0 (s.funs.getD p.1 default).body = L at *
  simp [List.getD_eq_getElem?_getD, this]
theorem getD_mem {s : Sch} {f : Nat} (hf : f < s.funs.length) : s.funs.getD f default ∈ s.funs := by
  rw [List.getD_eq_getElem?_getD, List.getElem?_eq_getElem hf]; exact List.getElem_mem hf
theorem nd_typed {s : Sch} (H : SOk s) {p : Pc} (hp : okP s p) : (sortR (plOf s p.1) (ndS s p).1).2 = true := by
  have hf := getD_mem hp.1
  have := H.typed _ hf
  simp only [typedB, Bool.and_eq_true] at this
  exact ndF_typed _ this.1 _ _ (List.mem_of_getElem? (ndS_get hp))
theorem nd_args {s : Sch} {p : Pc} (hp : okP s p) : nA s p = (ndS s p).1.kids.length ∧ ∀ j (hj : j < (ndS s p).1.kids.length), okP s (argAt s p j) ∧ p.2 < (argAt s p j).2 ∧ (ndS s (argAt s p j)).1 = (ndS s p).1.kids[j] := by
  obtain ⟨u, l, h1, h2, h3⟩ := ndF_get (s.funs.getD p.1 default).body 0 p.2 hp.2
  rw [ndS_get hp] at h1
  have e : ndS s p = (u, l) := by simpa using h1
  refine ⟨by rw [nA, e]; exact h2, ?_⟩
  intro j hj
  rw [e] at hj
  obtain ⟨a, q1, q2, q3, l', q4⟩ := h3 j hj
  have ea : argAt s p j = (p.1, a) := by
    simp only [argAt, e, List.getD_eq_getElem?_getD, q1, Nat.zero_add, Option.getD_some]
  rw [ea]
  have hk : okP s (p.1, a) := ⟨hp.1, q3⟩
  refine ⟨hk, q2, ?_⟩
  have := ndS_get hk
  simp only [q4] at this
  have e2 : (u.kids[j], l') = ndS s (p.1, a) := by simpa using this
  rw [← e2]
  simp [e]
structure TyOk (s : Sch) (p : Pc) : Prop where
  hd : (headR (plOf s p.1) (labP s p)).2 = true
  le : nA s p ≤ (hsort s p).kids.length
  ty : tyP s p = .mk () ((hsort s p).kids.drop (nA s p))
  arg : ∀ j, j < nA s p → okP s (argAt s p j) ∧ p.2 < (argAt s p j).2 ∧ tyP s (argAt s p j) = (hsort s p).kids.getD j so
theorem tyOk {s : Sch} (H : SOk s) {p : Pc} (hp : okP s p) : TyOk s p := by
  have ht := nd_typed H hp
  obtain ⟨hn, ha⟩ := nd_args hp
  have el : labP s p = (ndS s p).1.lab := rfl
  generalize hu : (ndS s p).1 = u at *
  cases u with
  | mk a us =>
    have el : labP s p = a := el
    obtain ⟨h1, h2, h3, h4⟩ := sortR_inv ht
    have hk : (Rt.mk a us).kids = us := rfl
    rw [hk] at hn ha
    refine ⟨by rw [el]; exact h1, ?_, ?_, fun j hj => ?_⟩
    · show nA s p ≤ (headR (plOf s p.1) (labP s p)).1.kids.length
      rw [hn, el]; exact h2
    · show (sortR (plOf s p.1) (ndS s p).1).1 = .mk () ((headR (plOf s p.1) (labP s p)).1.kids.drop (nA s p))
      rw [hu, hn, el]; exact h3
    · rw [hn] at hj
      obtain ⟨q1, q2, q3⟩ := ha j hj
      refine ⟨q1, q2, ?_⟩
      show (sortR (plOf s (argAt s p j).1) (ndS s (argAt s p j)).1).1 = (headR (plOf s p.1) (labP s p)).1.kids.getD j so
      have e1 : (argAt s p j).1 = p.1 := rfl
      rw [q3, e1, el, (h4 j hj (by omega)).2]
      have : j < (headR (plOf s p.1) a).1.kids.length := by omega
      simp [List.getD_eq_getElem?_getD, this]
theorem head_fun {s : Sch} (H : SOk s) {p : Pc} (hp : okP s p) {g : Int} (hl : labP s p = (1, g)) : 0 ≤ g ∧ g.toNat < s.funs.length ∧ hsort s p = srtOf s g.toNat := by
  have := (tyOk H hp).hd
  unfold hsort
  rw [hl] at this ⊢
  simp only [headR] at this ⊢
  by_cases h0 : g < 0
  · simp [h0] at this
  · have hlen : (plOf s p.1).funs.length = s.funs.length := by simp [plOf, Sch.place]
    by_cases h1 : g < ((plOf s p.1).funs.length : Nat)
    · rw [hlen] at h1
      have h2 : g.toNat < s.funs.length := by omega
      refine ⟨by omega, h2, ?_⟩
      simp [h0, hlen, h1, plOf, Sch.place, srtOf, List.getD_eq_getElem?_getD, h2]
    · simp [h0, h1] at this
theorem head_var {s : Sch} (H : SOk s) {p : Pc} (hp : okP s p) {i : Int} (hl : labP s p = (0, i)) : 0 ≤ i ∧ i.toNat < ar s p.1 ∧ hsort s p = (srtOf s p.1).kids.getD i.toNat so := by
  have := (tyOk H hp).hd
  unfold hsort
  rw [hl] at this ⊢
  simp only [headR] at this ⊢
  by_cases h0 : i < 0
  · simp [h0] at this
  · have hlen : (plOf s p.1).params.length = ar s p.1 := rfl
    by_cases h1 : i < ((plOf s p.1).params.length : Nat)
    · rw [hlen] at h1
      refine ⟨by omega, by omega, ?_⟩
      simp only [h0, if_false, if_true, hlen, h1]
      rfl
    · simp [h0, h1] at this
inductive FlP (s : Sch) (R : Nat → Prop) : Bool → Pc → Pc → Prop
  | fn {p : Pc} {g : Nat} (hp : okP s p) (hl : labP s p = (1, (g : Int))) : FlP s R false p (g, 0)
  | var {q p h : Pc} {i : Nat} (hq : okP s q) (hl : labP s q = (0, (i : Int))) (hc : FlP s R true (q.1, i) p) (hh : FlP s R false p h) : FlP s R false q (h.1, h.2 + nA s p)
  | arg {p h : Pc} {j : Nat} (hp : okP s p) (hr : R p.1) (hh : FlP s R false p h) (hj : j < nA s p) (ha : h.2 + j < ar s h.1) : FlP s R true (h.1, h.2 + j) (argAt s p j)
theorem FlP.typed {s : Sch} (H : SOk s) {R : Nat → Prop} {b : Bool} {x y : Pc} (h : FlP s R b x y) :
    (b = false → okP s x ∧ y.1 < s.funs.length ∧ y.2 ≤ ar s y.1 ∧ hsort s x = .mk () ((srtOf s y.1).kids.drop y.2)) ∧ (b = true → okK s x ∧ okP s y ∧ R y.1 ∧ tyP s y = (srtOf s x.1).kids.getD x.2 so) := by
  induction h with
  | @fn p g hp hl =>
    obtain ⟨_, h2, h3⟩ := head_fun H hp hl
    rw [Int.toNat_natCast] at h2 h3
    refine ⟨fun _ => ⟨hp, h2, Nat.zero_le _, ?_⟩, fun h => by cases h⟩
    rw [h3]; cases srtOf s g; rfl
  | @var q p h i hq hl _ _ ihc ihh =>
    obtain ⟨_, k2, _, k4⟩ := ihc.2 rfl
    obtain ⟨_, e2, e3, e4⟩ := ihh.1 rfl
    obtain ⟨_, v2, v3⟩ := head_var H hq hl
    rw [Int.toNat_natCast] at v2 v3
    have T := tyOk H k2
    have hle := T.le
    rw [e4] at hle
    simp only [kids_mk, List.length_drop] at hle
    have har : (srtOf s h.1).kids.length = ar s h.1 := rfl
    refine ⟨fun _ => ⟨hq, e2, by show h.2 + nA s p ≤ ar s h.1; omega, ?_⟩, fun h => by cases h⟩
    rw [v3]
    have : tyP s p = (srtOf s q.1).kids.getD i so := k4
    rw [← this, T.ty, e4]
    simp [kids_mk, List.drop_drop]
  | @arg p h j hp hr _ hj ha ih =>
    obtain ⟨_, e2, e3, e4⟩ := ih.1 rfl
    obtain ⟨a1, a2, a3⟩ := (tyOk H hp).arg j hj
    refine ⟨fun h => (by cases h), fun _ => ⟨⟨e2, ha⟩, a1, hr, ?_⟩⟩
    rw [a3, e4]
    simp [kids_mk, List.getD_eq_getElem?_getD, List.getElem?_drop]
end Am
