/- J2: joined of Ta, Tb, Tc, Va, Vb. -/
import Derived.Test.YtoifckjdnldlpaaJ1
import Derived.Test.YtoifckjdnldlpaaFS
/- Schemes: what is valid, and stays so when functions are taken away. -/
set_option linter.unusedVariables false
set_option linter.unusedSimpArgs false
namespace Am
open Go Go.Proofs.Try
open Rt (eqR eqRL eqR_iff)
structure Fn where
  name : ByteArray
  sort : Srt
  body : Tm
  deriving Inhabited
structure Sch where
  syms : List Sy
  funs : List Fn
  deriving Inhabited
def Sch.place (s : Sch) (ps : List Srt) : Pl := ⟨s.syms, s.funs.map (·.sort), ps⟩
/-- Names are valid, and no two are the same. -/
def fnamesB : List Fn → List ByteArray → Bool
  | [], _ => true
  | f :: r, seen => nameB f.name && !inN f.name seen && fnamesB r (seen ++ [f.name])
def okF (f : Fn) : Bool := okS f.sort && decide (f.body.nodes ≤ 400) && decide (f.body.depth ≤ 30)
def typedB (s : Sch) (f : Fn) : Bool := (sortR (s.place f.sort.kids) f.body).2 && decide ((sortR (s.place f.sort.kids) f.body).1.kids.length = 0)
def headB (l : List Fn) : Bool := decide ((l.headD default).sort.kids.length = 0)
def schB (s : Sch) : Bool := (symsB s.syms [] && decide (s.syms.length ≤ 24)) && decide (1 ≤ s.funs.length) && decide (s.funs.length ≤ 64) && headB s.funs && fnamesB s.funs [] && s.funs.all okF && s.funs.all (typedB s)
structure SOk (s : Sch) : Prop where
  syms : (symsB s.syms [] && decide (s.syms.length ≤ 24)) = true
  pos : 1 ≤ s.funs.length
  few : s.funs.length ≤ 64
  head : headB s.funs = true
  names : fnamesB s.funs [] = true
  ok : ∀ f, f ∈ s.funs → okF f = true
  typed : ∀ f, f ∈ s.funs → typedB s f = true
theorem schB_iff (s : Sch) : schB s = true ↔ SOk s := by
  unfold schB
  simp only [Bool.and_eq_true, decide_eq_true_eq, List.all_eq_true]
  constructor
  · rintro ⟨⟨⟨⟨⟨⟨⟨a1, a2⟩, b⟩, c⟩, d⟩, e⟩, f⟩, g⟩
    exact ⟨by simp [a1, a2], b, c, d, e, f, g⟩
  · rintro ⟨a, b, c, d, e, f, g⟩
    simp only [Bool.and_eq_true, decide_eq_true_eq] at a
    exact ⟨⟨⟨⟨⟨⟨a, b⟩, c⟩, d⟩, e⟩, f⟩, g⟩
theorem place_ok {s : Sch} (hs : (symsB s.syms [] && decide (s.syms.length ≤ 24)) = true) (hfew : s.funs.length ≤ 64) (hS : ∀ g, g ∈ s.funs → okS g.sort = true) {f : Fn} (hf : f ∈ s.funs) : PlOk (s.place f.sort.kids) := by
  simp only [Bool.and_eq_true, decide_eq_true_eq] at hs
  have hk := hS f hf
  rw [okS_iff] at hk
  obtain ⟨k1, k2, k3⟩ := hk
  obtain ⟨nm, ⟨u, ks⟩, bd⟩ := f
  rw [few_iff] at k3
  refine ⟨symsB_rank hs.1, hs.2, by simpa [Sch.place] using hfew, by simpa [Sch.place, Rt.kids] using k3.2, fun g hg => ?_, fun g hg => ?_⟩
  · simp only [Sch.place, List.mem_map] at hg
    obtain ⟨g', h1, rfl⟩ := hg
    exact hS g' h1
  · simp only [Sch.place, Rt.kids] at hg
    rw [okS_iff]
    simp only [Rt.nodes, Rt.depth] at k1 k2
    have h1 := Rt.nodes_mem hg
    have h2 : g.depth ≤ Rt.depthL ks := by
      have : ∀ (l : List Srt), g ∈ l → g.depth ≤ Rt.depthL l := fun l => by
        induction l with
        | nil => intro h; cases h
        | cons x l ih =>
          intro h
          simp only [Rt.depthL]
          rcases List.mem_cons.1 h with rfl | h
          · omega
          · have := ih h; omega
      exact this ks hg
    have h3 : few g = true := by
      have : ∀ (l : List Srt), fewL l = true → g ∈ l → few g = true := fun l => by
        induction l with
        | nil => intro _ h; cases h
        | cons x l ih =>
          intro h hg
          simp only [fewL, Bool.and_eq_true] at h
          rcases List.mem_cons.1 hg with rfl | hg
          · exact h.1
          · exact ih h.2 hg
      exact this ks k3.1 hg
    exact ⟨by omega, by omega, h3⟩
theorem okF_iff (f : Fn) : okF f = true ↔ okS f.sort = true ∧ f.body.nodes ≤ 400 ∧ f.body.depth ≤ 30 := by simp [okF, and_assoc]
theorem SOk.place {s : Sch} (H : SOk s) {f : Fn} (hf : f ∈ s.funs) : PlOk (s.place f.sort.kids) :=
  place_ok H.syms H.few (fun g hg => ((okF_iff g).1 (H.ok g hg)).1) hf
/-! ### Calls in a term, other numbers -/
mutual
def fcs : Tm → List Int
  | .mk a us => (if a.1 = 1 then [a.2] else []) ++ fcsL us
def fcsL : List Tm → List Int
  | [] => []
  | t :: ts => fcs t ++ fcsL ts
end
theorem fcsL_mem {us : List Tm} {k : Int} : k ∈ fcsL us ↔ ∃ t, t ∈ us ∧ k ∈ fcs t := by
  induction us with
  | nil => simp [fcsL]
  | cons t us ih => simp [fcsL, ih]
mutual
def ren (to : Int → Int) : Tm → Tm
  | .mk a us => .mk (a.1, if a.1 = 1 then to a.2 else a.2) (renL to us)
def renL (to : Int → Int) : List Tm → List Tm
  | [] => []
  | t :: ts => ren to t :: renL to ts
end
theorem renL_eq (to : Int → Int) (us : List Tm) : renL to us = us.map (ren to) := by induction us with | nil => rfl | cons t us ih => simp [renL, ih]
theorem nodesL_map {α : Type} {f : Rt α → Rt α} {us : List (Rt α)} (h : ∀ t, t ∈ us → (f t).nodes = t.nodes) : Rt.nodesL (us.map f) = Rt.nodesL us := by
  induction us with
  | nil => rfl
  | cons t us ih => simp only [List.map_cons, Rt.nodesL]; rw [h t (by simp), ih fun t ht => h t (by simp [ht])]
theorem depthL_map {α : Type} {f : Rt α → Rt α} {us : List (Rt α)} (h : ∀ t, t ∈ us → (f t).depth = t.depth) : Rt.depthL (us.map f) = Rt.depthL us := by
  induction us with
  | nil => rfl
  | cons t us ih => simp only [List.map_cons, Rt.depthL]; rw [h t (by simp), ih fun t ht => h t (by simp [ht])]
theorem ren_nodes (to : Int → Int) (t : Tm) : (ren to t).nodes = t.nodes := by
  refine Rt.ind (P := fun t => (ren to t).nodes = t.nodes) (fun a us ih => ?_) t
  simp only [ren, renL_eq, Rt.nodes, nodesL_map ih]
theorem ren_depth (to : Int → Int) (t : Tm) : (ren to t).depth = t.depth := by
  refine Rt.ind (P := fun t => (ren to t).depth = t.depth) (fun a us ih => ?_) t
  simp only [ren, renL_eq, Rt.depth, depthL_map ih]
theorem ren_id {to : Int → Int} (t : Tm) : (∀ k, k ∈ fcs t → to k = k) → ren to t = t := by
  refine Rt.ind (P := fun t => (∀ k, k ∈ fcs t → to k = k) → ren to t = t) (fun a us ih => ?_) t
  intro h
  have e1 : us.map (ren to) = us := by
    have : us.map (ren to) = us.map id := List.map_congr_left fun t ht => ih t ht fun k hk => h k (by simp only [fcs, List.mem_append]; exact .inr (fcsL_mem.2 ⟨t, ht, hk⟩))
    rw [this, List.map_id]
  have e2 : (a.1, if a.1 = 1 then to a.2 else a.2) = a := by
    by_cases h1 : a.1 = 1
    · rw [if_pos h1, h a.2 (by simp [fcs, h1])]
    · rw [if_neg h1]
  simp only [ren, renL_eq, e1, e2]
theorem ren_congr {to to' : Int → Int} (t : Tm) : (∀ k, k ∈ fcs t → to k = to' k) → ren to t = ren to' t := by
  refine Rt.ind (P := fun t => (∀ k, k ∈ fcs t → to k = to' k) → ren to t = ren to' t) (fun a us ih => ?_) t
  intro h
  have e1 : us.map (ren to) = us.map (ren to') := List.map_congr_left fun t ht => ih t ht fun k hk => h k (by simp only [fcs, List.mem_append]; exact .inr (fcsL_mem.2 ⟨t, ht, hk⟩))
  have e2 : (if a.1 = 1 then to a.2 else a.2) = (if a.1 = 1 then to' a.2 else a.2) := by
    by_cases h1 : a.1 = 1
    · rw [if_pos h1, if_pos h1, h a.2 (by simp [fcs, h1])]
    · rw [if_neg h1, if_neg h1]
  simp only [ren, renL_eq, e1, e2]
theorem argsB_mem {p : Pl} {us : List Tm} : ∀ {ks : List Srt}, argsB p us ks = true → us.length ≤ ks.length → ∀ u, u ∈ us → (sortR p u).2 = true := by
  induction us with
  | nil => intro ks _ _ u hu; cases hu
  | cons t us ih =>
    intro ks h hl u hu
    cases ks with
    | nil => simp at hl
    | cons x xs =>
      simp only [argsB, Bool.and_eq_true] at h
      rcases List.mem_cons.1 hu with rfl | hu
      · exact h.1.1
      · exact ih h.2 (by simpa using hl) u hu
theorem argsB_congr {p p' : Pl} {f : Tm → Tm} {us : List Tm} : ∀ {ks : List Srt}, (∀ u, u ∈ us → sortR p' (f u) = sortR p u) → argsB p' (us.map f) ks = argsB p us ks := by
  induction us with
  | nil => intro ks _; rfl
  | cons t us ih =>
    intro ks h
    cases ks with
    | nil => rfl
    | cons x xs =>
      simp only [List.map_cons, argsB]
      rw [h t (by simp), ih fun u hu => h u (by simp [hu])]
theorem headR_ren {p p' : Pl} (hs : p'.syms = p.syms) (hp : p'.params = p.params) {to : Int → Int} {a : Int × Int}
    (hf : a.1 = 1 → 0 ≤ a.2 → a.2 < p.funs.length → 0 ≤ to a.2 ∧ to a.2 < p'.funs.length ∧ p'.funs.getD (to a.2).toNat so = p.funs.getD a.2.toNat so) (hb : (headR p a).2 = true) :
    headR p' (a.1, if a.1 = 1 then to a.2 else a.2) = headR p a := by
  obtain ⟨a, n⟩ := a
  simp only at hf
  unfold headR at hb ⊢
  simp only at hb ⊢
  by_cases h0 : n < 0
  · simp [h0] at hb
  by_cases k1 : a = 1
  · subst k1
    by_cases hl : n < p.funs.length
    · obtain ⟨c1, c2, c3⟩ := hf rfl (by omega) hl
      have c4 : ¬ to n < 0 := by omega
      rw [if_pos rfl, if_neg c4, if_neg (by omega), if_pos rfl, if_pos c2, if_neg h0, if_neg (by omega), if_pos rfl, if_pos hl, c3]
    · simp [h0, hl] at hb
  · rw [if_neg k1, if_neg h0, if_neg h0, if_neg k1, if_neg k1, hs, hp]
theorem sortR_ren {p p' : Pl} (hs : p'.syms = p.syms) (hp : p'.params = p.params) {to : Int → Int} (t : Tm) :
    (∀ k, k ∈ fcs t → 0 ≤ k → k < p.funs.length → 0 ≤ to k ∧ to k < p'.funs.length ∧ p'.funs.getD (to k).toNat so = p.funs.getD k.toNat so) → (sortR p t).2 = true → sortR p' (ren to t) = sortR p t := by
  refine Rt.ind (P := fun t => (∀ k, k ∈ fcs t → 0 ≤ k → k < p.funs.length → 0 ≤ to k ∧ to k < p'.funs.length ∧ p'.funs.getD (to k).toNat so = p.funs.getD k.toNat so) → (sortR p t).2 = true → sortR p' (ren to t) = sortR p t) (fun a us ih => ?_) t
  intro hf hb
  simp only [ren, renL_eq]
  rw [sortR] at hb ⊢
  rw [sortR]
  by_cases hc : ((headR p a).2 && decide (us.length ≤ (headR p a).1.kids.length) && argsB p us (headR p a).1.kids) = true
  · have hc' := hc
    simp only [Bool.and_eq_true, decide_eq_true_eq] at hc'
    obtain ⟨⟨h1, h2⟩, h3⟩ := hc'
    have hh := headR_ren hs hp (to := to) (a := a) (fun e => hf a.2 (by simp [fcs, e])) h1
    have ha := argsB_congr (p := p) (p' := p') (f := ren to) (us := us) (ks := (headR p a).1.kids) fun u hu => ih u hu (fun k hk => hf k (by simp only [fcs, List.mem_append]; exact .inr (fcsL_mem.2 ⟨u, hu, hk⟩))) (argsB_mem h3 h2 u hu)
    rw [hh, List.length_map, ha]
  · rw [if_neg hc] at hb; cases hb
/-! ### Some of the functions -/
def keepL (stay : Nat → Bool) : Nat → List Fn → List Fn
  | _, [] => []
  | i, f :: r => if stay i = true then f :: keepL stay (i + 1) r else keepL stay (i + 1) r
theorem keepL_append (stay : Nat → Bool) (l l' : List Fn) : ∀ i, keepL stay i (l ++ l') = keepL stay i l ++ keepL stay (i + l.length) l' := by
  induction l with
  | nil => intro i; simp [keepL]
  | cons f l ih =>
    intro i
    have e : i + (f :: l).length = i + 1 + l.length := by simp; omega
    rw [e]
    simp only [List.cons_append, keepL, ih]
    split <;> simp
theorem keepL_snoc (stay : Nat → Bool) {l : List Fn} {k : Nat} (hk : k < l.length) : keepL stay 0 (l.take (k + 1)) = keepL stay 0 (l.take k) ++ if stay k = true then [l[k]] else [] := by
  rw [List.take_succ_eq_append_getElem hk, keepL_append]
  have : (l.take k).length = k := by simp; omega
  rw [this]
  simp only [keepL, Nat.zero_add]
theorem keepL_sub (stay : Nat → Bool) (l : List Fn) : ∀ i, List.Sublist (keepL stay i l) l := by
  induction l with
  | nil => intro i; simp [keepL]
  | cons f l ih =>
    intro i
    simp only [keepL]
    split
    · exact (ih _).cons_cons _
    · exact (ih _).cons _
/-- How many stay ahead of k. -/
def num (stay : Nat → Bool) (l : List Fn) (k : Nat) : Nat := (keepL stay 0 (l.take k)).length
theorem num_succ (stay : Nat → Bool) {l : List Fn} {k : Nat} (hk : k < l.length) : num stay l (k + 1) = num stay l k + if stay k = true then 1 else 0 := by
  unfold num; rw [keepL_snoc stay hk, List.length_append]; split <;> rfl
theorem num_le (stay : Nat → Bool) (l : List Fn) (k : Nat) : num stay l k ≤ (keepL stay 0 l).length := by
  unfold num
  have := keepL_append stay (l.take k) (l.drop k) 0
  rw [List.take_append_drop] at this
  rw [this, List.length_append]; omega
theorem num_get {stay : Nat → Bool} {l : List Fn} {k : Nat} (hk : k < l.length) (hs : stay k = true) : num stay l k < (keepL stay 0 l).length ∧ (keepL stay 0 l)[num stay l k]? = some l[k] := by
  have h1 := keepL_append stay (l.take k) (l.drop k) 0
  rw [List.take_append_drop, List.drop_eq_getElem_cons hk] at h1
  have e : 0 + (l.take k).length = k := by simp; omega
  rw [e] at h1
  simp only [keepL, hs, if_true] at h1
  unfold num
  rw [h1]
  refine ⟨by simp, ?_⟩
  rw [List.getElem?_append_right (Nat.le_refl _), Nat.sub_self]
  rfl
theorem keepL_get {stay : Nat → Bool} {l : List Fn} {i : Nat} (hi : i < (keepL stay 0 l).length) : ∃ k, ∃ hk : k < l.length, stay k = true ∧ num stay l k = i := by
  have : ∀ n, n ≤ l.length → i < num stay l n → ∃ k, k < n ∧ stay k = true ∧ num stay l k = i := fun n => by
    induction n with
    | zero => intro _ h; simp [num, keepL] at h
    | succ n ih =>
      intro hn h
      rw [num_succ stay (by omega)] at h
      by_cases h2 : i < num stay l n
      · obtain ⟨k, a, b, c⟩ := ih (by omega) h2
        exact ⟨k, by omega, b, c⟩
      · by_cases hs : stay n = true
        · rw [if_pos hs] at h
          exact ⟨n, by omega, hs, by omega⟩
        · rw [if_neg hs] at h; omega
  obtain ⟨k, a, b, c⟩ := this l.length (Nat.le_refl _) (by unfold num; rw [List.take_length]; exact hi)
  exact ⟨k, a, b, c⟩
def keepS (s : Sch) (stay : Nat → Bool) (to : Int → Int) : Sch := ⟨s.syms, (keepL stay 0 s.funs).map fun f => ⟨f.name, f.sort, ren to f.body⟩⟩
theorem inN_sub {n : ByteArray} {a b : List ByteArray} (h : ∀ x, x ∈ a → x ∈ b) (hb : inN n b = false) : inN n a = false := by
  unfold inN at hb ⊢
  rw [List.any_eq_false] at hb ⊢
  exact fun x hx => hb x (h x hx)
theorem fnamesB_sub {l' l : List Fn} (hl : List.Sublist l' l) : ∀ {a b : List ByteArray}, (∀ x, x ∈ a → x ∈ b) → fnamesB l b = true → fnamesB l' a = true := by
  induction hl with
  | slnil => intro a b _ _; rfl
  | @cons l1 l2 f hl ih =>
    intro a b h hb
    simp only [fnamesB, Bool.and_eq_true] at hb
    exact ih (fun x hx => by simp [h x hx]) hb.2
  | @cons_cons l1 l2 f hl ih =>
    intro a b h hb
    simp only [fnamesB, Bool.and_eq_true, Bool.not_eq_true'] at hb ⊢
    refine ⟨⟨hb.1.1, inN_sub h hb.1.2⟩, ih (fun x hx => ?_) hb.2⟩
    simp only [List.mem_append, List.mem_singleton] at hx ⊢
    rcases hx with hx | hx
    · exact .inl (h x hx)
    · exact .inr hx
theorem fnamesB_map {l : List Fn} {g : Fn → Fn} (hg : ∀ f, (g f).name = f.name) : ∀ a, fnamesB (l.map g) a = fnamesB l a := by
  induction l with
  | nil => intro a; rfl
  | cons f l ih => intro a; simp only [List.map_cons, fnamesB, hg, ih]
theorem keepS_len (s : Sch) (stay : Nat → Bool) (to : Int → Int) : (keepS s stay to).funs.length = (keepL stay 0 s.funs).length := by simp [keepS]
/-- What stays is valid, if the numbers of what is called still stand for functions of the same sorts. -/
theorem keep_ok {s : Sch} (H : SOk s) {stay : Nat → Bool} {to : Int → Int} (h0 : stay 0 = true)
    (hto : ∀ f, f ∈ keepL stay 0 s.funs → ∀ k, k ∈ fcs f.body → 0 ≤ k → k < s.funs.length → 0 ≤ to k ∧ to k < (keepL stay 0 s.funs).length ∧ ((keepL stay 0 s.funs).getD (to k).toNat default).sort = (s.funs.getD k.toNat default).sort) :
    SOk (keepS s stay to) := by
  have hsub := keepL_sub stay s.funs 0
  have hmem : ∀ f, f ∈ keepL stay 0 s.funs → f ∈ s.funs := fun f hf => hsub.subset hf
  have hpos := H.pos
  have h0' := num_get (stay := stay) (l := s.funs) (k := 0) (by omega) h0
  have hn0 : num stay s.funs 0 = 0 := by simp [num, keepL]
  rw [hn0] at h0'
  have hl : (keepL stay 0 s.funs).length ≤ s.funs.length := hsub.length_le
  refine ⟨H.syms, ?_, ?_, ?_, ?_, ?_, ?_⟩
  · rw [keepS_len]; exact h0'.1
  · rw [keepS_len]; have := H.few; omega
  · have h1 := H.head
    unfold headB at h1 ⊢
    have hd : ∀ l : List Fn, ∀ hl : 0 < l.length, l.headD default = l[0] := fun l hl => by
      cases l with
      | nil => simp at hl
      | cons f r => rfl
    have e1 : s.funs.headD default = s.funs[0] := hd _ (by omega)
    have e2 : (keepS s stay to).funs.headD default = ⟨s.funs[0].name, s.funs[0].sort, ren to s.funs[0].body⟩ := by
      unfold keepS
      cases hf : keepL stay 0 s.funs with
      | nil => rw [hf] at h0'; simp at h0'
      | cons f r =>
        rw [hf] at h0'
        have : f = s.funs[0] := by simpa using h0'.2
        rw [this]; rfl
    rw [e2]; rw [e1] at h1; exact h1
  · show fnamesB ((keepL stay 0 s.funs).map fun f => ⟨f.name, f.sort, ren to f.body⟩) [] = true
    rw [fnamesB_map (g := fun f => ⟨f.name, f.sort, ren to f.body⟩) (fun f => rfl)]
    exact fnamesB_sub hsub (fun x hx => hx) H.names
  · intro f hf
    simp only [keepS, List.mem_map] at hf
    obtain ⟨g, hg, rfl⟩ := hf
    have := H.ok g (hmem g hg)
    unfold okF at this ⊢
    simp only [ren_nodes, ren_depth]
    exact this
  · intro f hf
    simp only [keepS, List.mem_map] at hf
    obtain ⟨g, hg, rfl⟩ := hf
    have ht := H.typed g (hmem g hg)
    unfold typedB at ht ⊢
    simp only [Bool.and_eq_true] at ht
    have e : sortR ((keepS s stay to).place g.sort.kids) (ren to g.body) = sortR (s.place g.sort.kids) g.body := by
      refine sortR_ren (p := s.place g.sort.kids) (p' := (keepS s stay to).place g.sort.kids) rfl rfl g.body (fun k hk h1 h2 => ?_) ht.1
      have h2' : k < s.funs.length := by simpa [Sch.place] using h2
      obtain ⟨a, b, c⟩ := hto g hg k hk h1 h2'
      refine ⟨a, by simpa [Sch.place, keepS] using b, ?_⟩
      have b1 : (to k).toNat < (keepL stay 0 s.funs).length := by omega
      have b2 : k.toNat < s.funs.length := by omega
      simp only [List.getD_eq_getElem?_getD, List.getElem?_eq_getElem b1, List.getElem?_eq_getElem b2, Option.getD_some] at c
      simp [Sch.place, keepS, List.getD_eq_getElem?_getD, b1, b2, c]
    simp only [e, Bool.and_eq_true]
    exact ht
end Am
/- Reach, Merge and Drop: what they make is valid. -/
set_option linter.unusedVariables false
set_option linter.unusedSimpArgs false
namespace Am
open Go Go.Proofs.Try
open Rt (eqR eqRL eqR_iff)
/-! ### Calls of a valid body are numbers of functions -/
theorem sortR_fcs {p : Pl} (t : Tm) : (sortR p t).2 = true → ∀ k, k ∈ fcs t → 0 ≤ k ∧ k < p.funs.length := by
  refine Rt.ind (P := fun t => (sortR p t).2 = true → ∀ k, k ∈ fcs t → 0 ≤ k ∧ k < p.funs.length) (fun a us ih => ?_) t
  intro hb k hk
  rw [sortR] at hb
  by_cases hc : ((headR p a).2 && decide (us.length ≤ (headR p a).1.kids.length) && argsB p us (headR p a).1.kids) = true
  · simp only [Bool.and_eq_true, decide_eq_true_eq] at hc
    obtain ⟨⟨h1, h2⟩, h3⟩ := hc
    simp only [fcs, List.mem_append] at hk
    rcases hk with hk | hk
    · by_cases k1 : a.1 = 1
      · rw [if_pos k1] at hk
        have : k = a.2 := by simpa using hk
        subst this
        unfold headR at h1
        by_cases h0 : a.2 < 0
        · simp [h0] at h1
        by_cases hl : a.2 < p.funs.length
        · exact ⟨by omega, hl⟩
        · simp [h0, k1, hl] at h1
      · rw [if_neg k1] at hk; cases hk
    · obtain ⟨u, hu, hk⟩ := fcsL_mem.1 hk
      exact ih u hu (argsB_mem h3 h2 u hu) k hk
  · rw [if_neg hc] at hb; cases hb
theorem SOk.calls {s : Sch} (H : SOk s) {f : Fn} (hf : f ∈ s.funs) {k : Int} (hk : k ∈ fcs f.body) : 0 ≤ k ∧ k < s.funs.length := by
  have ht := H.typed f hf
  unfold typedB at ht
  simp only [Bool.and_eq_true] at ht
  have := sortR_fcs f.body ht.1 k hk
  simpa [Sch.place] using this
/-! ### Reach -/
inductive Rch (s : Sch) : Nat → Prop
  | zero : Rch s 0
  | step {f k : Nat} (hf : Rch s f) (hk : f < s.funs.length) (hc : (k : Int) ∈ fcs (s.funs.getD f default).body) : Rch s k
def IsR (s : Sch) (l : List Bool) : Prop := l.length = s.funs.length ∧ ∀ k, k < s.funs.length → (l.getD k false = true ↔ Rch s k)
theorem IsR.unique {s : Sch} {a b : List Bool} (ha : IsR s a) (hb : IsR s b) : a = b := by
  refine List.ext_getElem (ha.1.trans hb.1.symm) fun k h1 h2 => ?_
  have h3 : k < s.funs.length := by rw [← ha.1]; exact h1
  have e1 := ha.2 k h3
  have e2 := hb.2 k h3
  simp only [List.getD_eq_getElem?_getD, List.getElem?_eq_getElem h1, List.getElem?_eq_getElem h2, Option.getD_some] at e1 e2
  rw [Bool.eq_iff_iff, e1, e2]
/-- The number that a function gets. -/
def toN (stay : Nat → Bool) (l : List Fn) (k : Int) : Int := (num stay l k.toNat : Nat)
def reachS (s : Sch) (l : List Bool) : Sch := keepS s (fun i => l.getD i false) (toN (fun i => l.getD i false) s.funs)
theorem keepL_of {stay : Nat → Bool} {l : List Fn} {f : Fn} (hf : f ∈ keepL stay 0 l) : ∃ k, ∃ hk : k < l.length, stay k = true ∧ l[k] = f := by
  obtain ⟨i, hi, e⟩ := List.mem_iff_getElem.1 hf
  obtain ⟨k, hk, hs, hn⟩ := keepL_get (stay := stay) (l := l) hi
  have := (num_get hk hs).2
  rw [hn, List.getElem?_eq_getElem hi] at this
  exact ⟨k, hk, hs, by rw [← e]; exact (Option.some.inj this).symm⟩
theorem reach_ok {s : Sch} (H : SOk s) {l : List Bool} (hl : IsR s l) : SOk (reachS s l) := by
  refine keep_ok H ((hl.2 0 (by have := H.pos; omega)).2 .zero) fun f hf k hk h0 hlt => ?_
  obtain ⟨j, hj, hs, rfl⟩ := keepL_of hf
  have hr := (hl.2 j hj).1 hs
  have hrk : Rch s k.toNat := by
    refine .step hr hj ?_
    simp only [List.getD_eq_getElem?_getD, List.getElem?_eq_getElem hj, Option.getD_some]
    rw [Int.toNat_of_nonneg h0]; exact hk
  have hkn : k.toNat < s.funs.length := by omega
  have hst := (hl.2 k.toNat hkn).2 hrk
  obtain ⟨a, b⟩ := num_get (stay := fun i => l.getD i false) hkn hst
  refine ⟨by unfold toN; omega, by unfold toN; omega, ?_⟩
  unfold toN
  rw [Int.toNat_natCast, List.getD_eq_getElem?_getD, b, List.getD_eq_getElem?_getD, List.getElem?_eq_getElem hkn]
/-- All that stays is reached. -/
theorem reach_all {s : Sch} (H : SOk s) {l : List Bool} (hl : IsR s l) : ∀ i, i < (reachS s l).funs.length → Rch (reachS s l) i := by
  have key : ∀ k, Rch s k → ∀ hk : k < s.funs.length, Rch (reachS s l) (num (fun i => l.getD i false) s.funs k) := by
    intro k hk
    induction hk with
    | zero => intro _; exact .zero
    | @step f k hf hfl hc ih =>
      intro hk
      have hs := (hl.2 f hfl).2 hf
      obtain ⟨a, b⟩ := num_get (stay := fun i => l.getD i false) hfl hs
      refine .step (ih hfl) (by unfold reachS; rw [keepS_len]; exact a) ?_
      have e : ((reachS s l).funs.getD (num (fun i => l.getD i false) s.funs f) default).body = ren (toN (fun i => l.getD i false) s.funs) s.funs[f].body := by
        have e0 : (reachS s l).funs[num (fun i => l.getD i false) s.funs f]? = some ⟨s.funs[f].name, s.funs[f].sort, ren (toN (fun i => l.getD i false) s.funs) s.funs[f].body⟩ := by
          unfold reachS keepS
          rw [List.getElem?_map, b]; rfl
        rw [List.getD_eq_getElem?_getD, e0]; rfl
      rw [e]
      simp only [List.getD_eq_getElem?_getD, List.getElem?_eq_getElem hfl, Option.getD_some] at hc
      have : ∀ t : Tm, (k : Int) ∈ fcs t → (num (fun i => l.getD i false) s.funs k : Int) ∈ fcs (ren (toN (fun i => l.getD i false) s.funs) t) := fun t => by
        refine Rt.ind (P := fun t => (k : Int) ∈ fcs t → (num (fun i => l.getD i false) s.funs k : Int) ∈ fcs (ren (toN (fun i => l.getD i false) s.funs) t)) (fun a us ih => ?_) t
        intro h
        simp only [ren, renL_eq, fcs, List.mem_append] at h ⊢
        rcases h with h | h
        · left
          by_cases k1 : a.1 = 1
          · rw [if_pos k1] at h
            have : (k : Int) = a.2 := by simpa using h
            rw [if_pos k1, if_pos k1, ← this]
            simp [toN]
          · rw [if_neg k1] at h; cases h
        · right
          obtain ⟨u, hu, h⟩ := fcsL_mem.1 h
          exact fcsL_mem.2 ⟨_, List.mem_map.2 ⟨u, hu, rfl⟩, ih u hu h⟩
      exact this _ hc
  intro i hi
  unfold reachS at hi
  rw [keepS_len] at hi
  obtain ⟨k, hk, hs, hn⟩ := keepL_get hi
  rw [← hn]
  exact key k ((hl.2 k hk).1 hs) hk
theorem keepL_true {stay : Nat → Bool} (l : List Fn) : ∀ i, (∀ j, i ≤ j → j < i + l.length → stay j = true) → keepL stay i l = l := by
  induction l with
  | nil => intro i _; rfl
  | cons f l ih =>
    intro i h
    simp only [keepL]
    rw [if_pos (h i (Nat.le_refl _) (by simp)), ih (i + 1) fun j a b => h j (by omega) (by simp; omega)]
theorem num_true {stay : Nat → Bool} {l : List Fn} {k : Nat} (hk : k ≤ l.length) (h : ∀ j, j < l.length → stay j = true) : num stay l k = k := by
  unfold num
  rw [keepL_true _ 0 fun j _ hj => h j (by simp at hj; omega)]
  simp; omega
theorem keepS_all {s : Sch} (H : SOk s) {stay : Nat → Bool} (h : ∀ j, j < s.funs.length → stay j = true) : keepS s stay (toN stay s.funs) = s := by
  unfold keepS
  rw [keepL_true _ 0 fun j _ hj => h j (by omega)]
  have : s.funs.map (fun f => (⟨f.name, f.sort, ren (toN stay s.funs) f.body⟩ : Fn)) = s.funs := by
    have e : s.funs.map (fun f => (⟨f.name, f.sort, ren (toN stay s.funs) f.body⟩ : Fn)) = s.funs.map id := List.map_congr_left fun f hf => by
      rw [ren_id f.body fun k hk => ?_]; rfl
      obtain ⟨a, b⟩ := H.calls hf hk
      unfold toN
      rw [num_true (by omega) h]; omega
    rw [e, List.map_id]
  rw [this]
/-- Done twice it is as done once. -/
theorem reach_twice {s : Sch} (H : SOk s) {l l' : List Bool} (hl : IsR s l) (hl' : IsR (reachS s l) l') : reachS (reachS s l) l' = reachS s l :=
  keepS_all (reach_ok H hl) fun j hj => (hl'.2 j hj).2 (reach_all H hl j hj)
theorem reach_same {s : Sch} (H : SOk s) {l : List Bool} (hl : IsR s l) (he : (reachS s l).funs.length = s.funs.length) : reachS s l = s := by
  refine keepS_all H fun j hj => ?_
  unfold reachS at he
  rw [keepS_len] at he
  have hsub := keepL_sub (fun i => l.getD i false) s.funs 0
  cases hs : l.getD j false with
  | true => rfl
  | false =>
    exfalso
    have h1 := num_succ (fun i => l.getD i false) hj
    simp only [hs, Bool.false_eq_true, if_false] at h1
    have h2 : ∀ k, num (fun i => l.getD i false) s.funs k ≤ k := fun k => by
      unfold num
      have := (keepL_sub (fun i => l.getD i false) (s.funs.take k) 0).length_le
      rw [List.length_take] at this; omega
    have h3 : (keepL (fun i => l.getD i false) 0 s.funs).length = num (fun i => l.getD i false) s.funs (j + 1) + (keepL (fun i => l.getD i false) (0 + (s.funs.take (j + 1)).length) (s.funs.drop (j + 1))).length := by
      have := keepL_append (fun i => l.getD i false) (s.funs.take (j + 1)) (s.funs.drop (j + 1)) 0
      rw [List.take_append_drop] at this
      rw [this, List.length_append]; rfl
    have h4 := (keepL_sub (fun i => l.getD i false) (s.funs.drop (j + 1)) (0 + (s.funs.take (j + 1)).length)).length_le
    rw [List.length_drop] at h4
    have := h2 j
    omega
/-! ### Merge -/
def toM (f g : Nat) (l : List Fn) (k : Int) : Int := if k = g then (num (fun h => !decide (h = g)) l f : Nat) else toN (fun h => !decide (h = g)) l k
def mergeS (s : Sch) (f g : Nat) : Sch := keepS s (fun h => !decide (h = g)) (toM f g s.funs)
theorem merge_ok {s : Sch} (H : SOk s) {f g : Nat} (hfg : f < g) (hg : g < s.funs.length) (he : (s.funs.getD f default).sort = (s.funs.getD g default).sort) : SOk (mergeS s f g) := by
  refine keep_ok H (by simp; omega) fun x hx k hk h0 hlt => ?_
  by_cases e : k = g
  · have hst : (fun h => !decide (h = g)) f = true := by simp; omega
    obtain ⟨a, b⟩ := num_get (stay := fun h => !decide (h = g)) (l := s.funs) (k := f) (by omega) hst
    unfold toM
    rw [if_pos e]
    refine ⟨by omega, by omega, ?_⟩
    subst e
    rw [Int.toNat_natCast, Int.toNat_natCast, ← he, List.getD_eq_getElem?_getD, b, List.getD_eq_getElem?_getD, List.getElem?_eq_getElem (by omega)]
  · have hst : (fun h => !decide (h = g)) k.toNat = true := by simp; omega
    obtain ⟨a, b⟩ := num_get (stay := fun h => !decide (h = g)) (l := s.funs) (k := k.toNat) (by omega) hst
    unfold toM
    rw [if_neg e]
    unfold toN
    refine ⟨by omega, by omega, ?_⟩
    rw [Int.toNat_natCast, List.getD_eq_getElem?_getD, b, List.getD_eq_getElem?_getD, List.getElem?_eq_getElem (by omega)]
theorem keep1_len (g : Nat) (l : List Fn) (hg : g < l.length) : (keepL (fun h => !decide (h = g)) 0 l).length + 1 = l.length := by
  have key : ∀ n, n ≤ l.length → num (fun h => !decide (h = g)) l n = if g < n then n - 1 else n := fun n => by
    induction n with
    | zero => intro _; simp [num, keepL]
    | succ n ih =>
      intro hn
      rw [num_succ _ (by omega), ih (by omega)]
      by_cases e : n = g
      · subst e; simp
      · simp [e]; split <;> split <;> omega
  have := key l.length (Nat.le_refl _)
  unfold num at this
  rw [List.take_length, if_pos hg] at this
  omega
theorem mergeS_len (s : Sch) (f g : Nat) (hg : g < s.funs.length) : (mergeS s f g).funs.length + 1 = s.funs.length := by
  unfold mergeS; rw [keepS_len]; exact keep1_len g s.funs hg
end Am
/- Drop: what it makes is valid. -/
set_option linter.unusedVariables false
set_option linter.unusedSimpArgs false
namespace Am
open Go Go.Proofs.Try
open Rt (eqR eqRL eqR_iff)
mutual
def dropT (f i : Nat) (own : Bool) : Tm → Tm
  | .mk a us => .mk (a.1, if own = true ∧ a.1 = 0 ∧ (i : Int) < a.2 then a.2 - 1 else a.2) (if a.1 = 1 ∧ a.2 = f then (dropTL f i own us).eraseIdx i else dropTL f i own us)
def dropTL (f i : Nat) (own : Bool) : List Tm → List Tm
  | [] => []
  | t :: ts => dropT f i own t :: dropTL f i own ts
end
theorem dropTL_eq (f i : Nat) (own : Bool) (us : List Tm) : dropTL f i own us = us.map (dropT f i own) := by induction us with | nil => rfl | cons t us ih => simp [dropTL, ih]
mutual
def idleT (f i : Nat) (own : Bool) : Tm → Bool
  | .mk a us => !(own && decide (a.1 = 0) && decide (a.2 = i)) && !(decide (a.1 = 1) && decide (a.2 = f) && decide (us.length ≤ i)) && idleTL f i own us
def idleTL (f i : Nat) (own : Bool) : List Tm → Bool
  | [] => true
  | t :: ts => idleT f i own t && idleTL f i own ts
end
theorem idleTL_eq (f i : Nat) (own : Bool) (us : List Tm) : idleTL f i own us = us.all (idleT f i own) := by induction us with | nil => rfl | cons t us ih => simp [idleTL, ih]
theorem argsB_erase {p : Pl} (i : Nat) {us : List Tm} : ∀ {ks : List Srt}, argsB p us ks = true → us.length ≤ ks.length → argsB p (us.eraseIdx i) (ks.eraseIdx i) = true := by
  induction us generalizing i with
  | nil => intro ks _ _; rfl
  | cons t us ih =>
    intro ks h hl
    cases ks with
    | nil => simp at hl
    | cons x xs =>
      simp only [argsB, Bool.and_eq_true] at h
      cases i with
      | zero => exact h.2
      | succ i =>
        simp only [List.eraseIdx_cons_succ, argsB, Bool.and_eq_true]
        exact ⟨h.1, ih i h.2 (by simpa using hl)⟩
theorem drop_erase {α : Type} (l : List α) : ∀ (i n : Nat), i < n → (l.eraseIdx i).drop (n - 1) = l.drop n := by
  induction l with
  | nil => intro i n _; simp
  | cons x l ih =>
    intro i n h
    cases i with
    | zero =>
      obtain ⟨m, rfl⟩ : ∃ m, n = m + 1 := ⟨n - 1, by omega⟩
      simp
    | succ i =>
      obtain ⟨m, rfl⟩ : ∃ m, n = m + 2 := ⟨n - 2, by omega⟩
      have := ih i (m + 1) (by omega)
      simpa using this
theorem eraseIdx_get {α : Type} (l : List α) (i k : Nat) (hk : k ≠ i) : (l.eraseIdx i)[if i < k then k - 1 else k]? = l[k]? := by
  rw [List.getElem?_eraseIdx]
  by_cases h : i < k
  · rw [if_pos h, if_neg (by omega)]
    congr 1; omega
  · rw [if_neg h, if_pos (by omega)]
theorem headR_var {p : Pl} {n : Int} (h0 : 0 ≤ n) (hl : n < p.params.length) : headR p (0, n) = (p.params.getD n.toNat so, true) := by
  unfold headR
  simp [show ¬ n < 0 by omega, hl]
theorem kids_mk {α : Type} (a : α) (us : List (Rt α)) : (Rt.mk a us).kids = us := rfl
theorem sortR_drop {p p' : Pl} {f i : Nat} {own : Bool} (hs : p'.syms = p.syms) (hl : p'.funs.length = p.funs.length) (hk : ∀ k, k ≠ f → p'.funs.getD k so = p.funs.getD k so) (hf : p'.funs.getD f so = .mk () ((p.funs.getD f so).kids.eraseIdx i))
    (hp : p'.params = if own = true then p.params.eraseIdx i else p.params) (t : Tm) : idleT f i own t = true → (sortR p t).2 = true → sortR p' (dropT f i own t) = sortR p t := by
  refine Rt.ind (P := fun t => idleT f i own t = true → (sortR p t).2 = true → sortR p' (dropT f i own t) = sortR p t) (fun a us ih => ?_) t
  intro hi hb
  obtain ⟨kd, n⟩ := a
  simp only [idleT, idleTL_eq, Bool.and_eq_true, List.all_eq_true, Bool.not_eq_true', Bool.and_eq_false_iff, decide_eq_false_iff_not] at hi
  obtain ⟨⟨i1, i2⟩, i3⟩ := hi
  rw [sortR] at hb
  by_cases hc : ((headR p (kd, n)).2 && decide (us.length ≤ (headR p (kd, n)).1.kids.length) && argsB p us (headR p (kd, n)).1.kids) = true
  case neg => rw [if_neg hc] at hb; cases hb
  have hc' := hc
  simp only [Bool.and_eq_true, decide_eq_true_eq] at hc'
  obtain ⟨⟨h1, h2⟩, h3⟩ := hc'
  have ha := argsB_congr (p := p) (p' := p') (f := dropT f i own) (us := us) (ks := (headR p (kd, n)).1.kids) fun u hu => ih u hu (i3 u hu) (argsB_mem h3 h2 u hu)
  simp only [dropT, dropTL_eq]
  by_cases hcall : kd = 1 ∧ n = f
  · obtain ⟨rfl, rfl⟩ := hcall
    have hu : i < us.length := by
      rcases i2 with (e | e) | e
      · exact absurd rfl e
      · exact absurd rfl e
      · omega
    have hlt : (f : Int) < p.funs.length := by
      unfold headR at h1
      by_cases hlt : (f : Int) < p.funs.length
      · exact hlt
      · have : ¬ (f : Int) < 0 := by omega
        simp [this, hlt] at h1
    have e1 : headR p (1, (f : Int)) = (p.funs.getD f so, true) := by
      unfold headR
      rw [if_neg (by simp), if_neg (by simp), if_pos rfl, if_pos hlt, Int.toNat_natCast]
    have e2 : headR p' (1, (f : Int)) = (.mk () ((p.funs.getD f so).kids.eraseIdx i), true) := by
      unfold headR
      rw [if_neg (by simp), if_neg (by simp), if_pos rfl, if_pos (by simp only; omega), Int.toNat_natCast, hf]
    have e3 : ((1 : Int), if own = true ∧ (1 : Int) = 0 ∧ (i : Int) < (f : Int) then (f : Int) - 1 else (f : Int)) = (1, (f : Int)) := by rw [if_neg (by simp)]
    rw [e1] at h2 h3 ha
    simp only at h2 h3 ha
    simp only [e3, and_self, if_true]
    rw [sortR, sortR, e2, e1]
    have hlen : ((us.map (dropT f i own)).eraseIdx i).length = us.length - 1 := by rw [List.length_eraseIdx, List.length_map, if_pos hu]
    have hlk : ((p.funs.getD f so).kids.eraseIdx i).length = (p.funs.getD f so).kids.length - 1 := by rw [List.length_eraseIdx, if_pos (by omega)]
    have hb1 := argsB_erase (p := p') i (us := us.map (dropT f i own)) (ks := (p.funs.getD f so).kids) (by rw [ha]; exact h3) (by simpa using h2)
    simp only [kids_mk, hlen, hlk, hb1, h3, Bool.and_true, Bool.true_and]
    rw [if_pos (by rw [decide_eq_true_eq]; omega), if_pos (by rw [decide_eq_true_eq]; exact h2), drop_erase _ i us.length hu]
  · rw [if_neg hcall]
    have hh : headR p' (kd, if own = true ∧ kd = 0 ∧ (i : Int) < n then n - 1 else n) = headR p (kd, n) := by
      by_cases n0 : n < 0
      · unfold headR at h1; simp [n0] at h1
      by_cases k0 : kd = 0
      · subst k0
        have hlt : n < p.params.length := by
          unfold headR at h1
          by_cases hlt : n < p.params.length
          · exact hlt
          · simp [n0, hlt] at h1
        rw [headR_var (p := p) (by omega) hlt]
        cases own with
        | false =>
          rw [if_neg (by simp)]
          have hp' : p'.params = p.params := by simpa using hp
          rw [headR_var (by omega) (by rw [hp']; exact hlt), hp']
        | true =>
          have hp' : p'.params = p.params.eraseIdx i := by simpa using hp
          have hne : n ≠ i := by
            rcases i1 with (e | e) | e
            · cases e
            · exact absurd rfl e
            · exact e
          have hg := eraseIdx_get p.params i n.toNat (by omega)
          have hel : (p.params.eraseIdx i).length = if i < p.params.length then p.params.length - 1 else p.params.length := List.length_eraseIdx
          by_cases hin : (i : Int) < n
          · rw [if_pos ⟨rfl, rfl, hin⟩]
            rw [if_pos (show i < n.toNat by omega)] at hg
            rw [if_pos (by omega)] at hel
            have e : (n - 1).toNat = n.toNat - 1 := by omega
            rw [headR_var (by omega) (by rw [hp', hel]; omega), hp', e, List.getD_eq_getElem?_getD, List.getD_eq_getElem?_getD, hg]
          · rw [if_neg (fun e => hin e.2.2)]
            rw [if_neg (show ¬ i < n.toNat by omega)] at hg
            rw [headR_var (by omega) (by rw [hp', hel]; split <;> omega), hp', List.getD_eq_getElem?_getD, List.getD_eq_getElem?_getD, hg]
      · rw [if_neg (fun e => k0 e.2.1)]
        unfold headR
        simp only
        rw [if_neg n0, if_neg n0, if_neg k0, if_neg k0, hs, hl]
        by_cases k1 : kd = 1
        · rw [if_pos k1, if_pos k1, hk n.toNat (fun e => hcall ⟨k1, by omega⟩)]
        · rw [if_neg k1, if_neg k1]
    rw [sortR, sortR, hh, List.length_map, ha]
theorem nodesL_erase {α : Type} (l : List (Rt α)) : ∀ i, Rt.nodesL (l.eraseIdx i) ≤ Rt.nodesL l := by
  induction l with
  | nil => intro i; simp
  | cons x l ih =>
    intro i
    cases i with
    | zero => simp [Rt.nodesL]
    | succ i => have := ih i; simp only [List.eraseIdx_cons_succ, Rt.nodesL]; omega
theorem depthL_erase {α : Type} (l : List (Rt α)) : ∀ i, Rt.depthL (l.eraseIdx i) ≤ Rt.depthL l := by
  induction l with
  | nil => intro i; simp
  | cons x l ih =>
    intro i
    cases i with
    | zero => simp only [List.eraseIdx_cons_zero, Rt.depthL]; omega
    | succ i => have := ih i; simp only [List.eraseIdx_cons_succ, Rt.depthL]; omega
theorem fewL_erase (l : List Srt) : ∀ i, fewL l = true → fewL (l.eraseIdx i) = true := by
  induction l with
  | nil => intro i h; exact h
  | cons x l ih =>
    intro i h
    simp only [fewL, Bool.and_eq_true] at h
    cases i with
    | zero => exact h.2
    | succ i => simp only [List.eraseIdx_cons_succ, fewL, Bool.and_eq_true]; exact ⟨h.1, ih i h.2⟩
theorem nodesL_map_le {α : Type} {f : Rt α → Rt α} {us : List (Rt α)} (h : ∀ t, t ∈ us → (f t).nodes ≤ t.nodes) : Rt.nodesL (us.map f) ≤ Rt.nodesL us := by
  induction us with
  | nil => exact Nat.le_refl _
  | cons t us ih =>
    have h1 := h t (by simp)
    have h2 := ih fun t ht => h t (by simp [ht])
    simp only [List.map_cons, Rt.nodesL]; omega
theorem depthL_map_le {α : Type} {f : Rt α → Rt α} {us : List (Rt α)} (h : ∀ t, t ∈ us → (f t).depth ≤ t.depth) : Rt.depthL (us.map f) ≤ Rt.depthL us := by
  induction us with
  | nil => exact Nat.le_refl _
  | cons t us ih =>
    have h1 := h t (by simp)
    have h2 := ih fun t ht => h t (by simp [ht])
    simp only [List.map_cons, Rt.depthL]; omega
theorem dropT_nodes (f i : Nat) (own : Bool) (t : Tm) : (dropT f i own t).nodes ≤ t.nodes := by
  refine Rt.ind (P := fun t => (dropT f i own t).nodes ≤ t.nodes) (fun a us ih => ?_) t
  have h1 := nodesL_map_le ih
  have h2 := nodesL_erase (us.map (dropT f i own)) i
  simp only [dropT, dropTL_eq, Rt.nodes]
  split <;> omega
theorem dropT_depth (f i : Nat) (own : Bool) (t : Tm) : (dropT f i own t).depth ≤ t.depth := by
  refine Rt.ind (P := fun t => (dropT f i own t).depth ≤ t.depth) (fun a us ih => ?_) t
  have h1 := depthL_map_le ih
  have h2 := depthL_erase (us.map (dropT f i own)) i
  simp only [dropT, dropTL_eq, Rt.depth]
  split <;> omega
theorem okS_erase {s : Srt} (hs : okS s = true) (i : Nat) : okS (.mk () (s.kids.eraseIdx i)) = true := by
  obtain ⟨a, us⟩ := s
  rw [okS_iff] at hs ⊢
  obtain ⟨h1, h2, h3⟩ := hs
  rw [few_iff] at h3 ⊢
  simp only [Rt.kids]
  have n1 := nodesL_erase us i
  have n2 := depthL_erase us i
  have n3 : (us.eraseIdx i).length ≤ us.length := by rw [List.length_eraseIdx]; split <;> omega
  simp only [Rt.nodes, Rt.depth] at h1 h2 ⊢
  exact ⟨by omega, by omega, fewL_erase us i h3.1, by omega⟩
def dropF (f i : Nat) (g : Nat) (x : Fn) : Fn := ⟨x.name, if g = f then .mk () (x.sort.kids.eraseIdx i) else x.sort, dropT f i (decide (g = f)) x.body⟩
def dropS (s : Sch) (f i : Nat) : Sch := ⟨s.syms, s.funs.mapIdx (dropF f i)⟩
def idleS (s : Sch) (f i : Nat) : Bool := !decide (f = 0) && (s.funs.mapIdx fun g x => idleT f i (decide (g = f)) x.body).all id
theorem fnamesB_names {l l' : List Fn} (h : l.map (·.name) = l'.map (·.name)) : ∀ a, fnamesB l a = fnamesB l' a := by
  induction l generalizing l' with
  | nil => intro a; cases l' with
    | nil => rfl
    | cons _ _ => simp at h
  | cons f l ih =>
    intro a
    cases l' with
    | nil => simp at h
    | cons f' l' =>
      simp only [List.map_cons, List.cons.injEq] at h
      simp only [fnamesB, h.1, ih h.2]
theorem drop_ok {s : Sch} (H : SOk s) {f i : Nat} (hf : f < s.funs.length) (hid : idleS s f i = true) : SOk (dropS s f i) := by
  unfold idleS at hid
  simp only [Bool.and_eq_true, Bool.not_eq_true', decide_eq_false_iff_not, List.all_eq_true] at hid
  obtain ⟨f0, hid⟩ := hid
  have hidle : ∀ g (hg : g < s.funs.length), idleT f i (decide (g = f)) s.funs[g].body = true := fun g hg => by
    refine hid _ (List.mem_iff_getElem.2 ⟨g, by simpa using hg, ?_⟩)
    simp
  have hlen : (dropS s f i).funs.length = s.funs.length := by simp [dropS]
  refine ⟨H.syms, by rw [hlen]; exact H.pos, by rw [hlen]; exact H.few, ?_, ?_, ?_, ?_⟩
  · have h1 := H.head
    have hpos := H.pos
    unfold headB dropS at *
    cases hl : s.funs with
    | nil => rw [hl] at hpos; simp at hpos
    | cons x r =>
      rw [hl] at h1
      have : ¬ 0 = f := fun e => f0 e.symm
      simpa [List.mapIdx_cons, dropF, this] using h1
  · rw [← H.names]
    refine fnamesB_names ?_ _
    refine List.ext_getElem (by simp [dropS]) fun k h1 h2 => ?_
    simp [dropS, dropF]
  · intro x hx
    simp only [dropS] at hx
    obtain ⟨g, hg, rfl⟩ := List.mem_iff_getElem.1 hx
    rw [List.getElem_mapIdx]
    have hg' : g < s.funs.length := by simpa using hg
    have := H.ok s.funs[g] (List.getElem_mem hg')
    unfold okF at this ⊢
    simp only [Bool.and_eq_true, decide_eq_true_eq] at this ⊢
    have h1 := dropT_nodes f i (decide (g = f)) s.funs[g].body
    have h2 := dropT_depth f i (decide (g = f)) s.funs[g].body
    refine ⟨⟨?_, by simp only [dropF]; omega⟩, by simp only [dropF]; omega⟩
    simp only [dropF]
    split
    · exact okS_erase this.1.1 i
    · exact this.1.1
  · intro x hx
    simp only [dropS] at hx
    obtain ⟨g, hg, rfl⟩ := List.mem_iff_getElem.1 hx
    rw [List.getElem_mapIdx]
    have hg' : g < s.funs.length := by simpa using hg
    have ht := H.typed s.funs[g] (List.getElem_mem hg')
    unfold typedB at ht ⊢
    simp only [Bool.and_eq_true] at ht
    have hget : ∀ k, ((dropS s f i).place (dropF f i g s.funs[g]).sort.kids).funs[k]? = (s.funs[k]?).map fun x => (dropF f i k x).sort := fun k => by
      simp only [Sch.place, dropS, List.getElem?_map, List.getElem?_mapIdx]
      cases s.funs[k]? <;> rfl
    have e : sortR ((dropS s f i).place (dropF f i g s.funs[g]).sort.kids) (dropT f i (decide (g = f)) s.funs[g].body) = sortR (s.place s.funs[g].sort.kids) s.funs[g].body := by
      refine sortR_drop (p := s.place s.funs[g].sort.kids) (p' := (dropS s f i).place (dropF f i g s.funs[g]).sort.kids) (f := f) (i := i) (own := decide (g = f)) rfl (by simp [Sch.place, dropS]) (fun k hk => ?_) ?_ ?_ _ (hidle g hg') ht.1
      · rw [List.getD_eq_getElem?_getD, hget, List.getD_eq_getElem?_getD]
        simp only [Sch.place, List.getElem?_map]
        cases s.funs[k]? with
        | none => rfl
        | some y => simp [dropF, hk]
      · rw [List.getD_eq_getElem?_getD, hget, List.getD_eq_getElem?_getD]
        simp [Sch.place, List.getElem?_map, List.getElem?_eq_getElem hf, dropF]
      · by_cases e : g = f
        · simp [Sch.place, dropF, e, Rt.kids]
        · simp [Sch.place, dropF, e]
    show (_ && _) = true
    have e2 : (dropF f i g s.funs[g]).body = dropT f i (decide (g = f)) s.funs[g].body := rfl
    rw [e2, e, ht.1, ht.2]; rfl
end Am
/- Contracts: schemes: validity, places. -/
set_option linter.unusedVariables false
set_option linter.unusedSimpArgs false
namespace Am
open Go Go.Proofs.Try
open Rt (eqR eqRL eqR_iff)
def fnC (f : Fn) : List AV := [S f.name, srC f.sort, I f.body.lab.1, I f.body.lab.2, .rs 3 (tmCs f.body.kids)]
def fnCs (l : List Fn) : List (List AV) := l.map fnC
def sm (s : Sch) : AV := .agg [.rs 2 (syCs s.syms), .rs 5 (fnCs s.funs)]
theorem sm_eta (s : Sch) : (.agg [.rs 2 (syCs s.syms), .rs 5 (fnCs s.funs)] : AV) = sm s := rfl
@[simp] theorem fnCs_len (l : List Fn) : (fnCs l).length = l.length := by simp [fnCs]
@[simp] theorem fnCs_gE {l : List Fn} {k : Nat} (hk : k < (fnCs l).length) : (fnCs l)[k] = fnC (l[k]'(by simpa using hk)) := by simp [fnCs]
@[simp] theorem fnC_len (f : Fn) : (fnC f).length = 5 := rfl
@[simp] theorem fnCs_take (l : List Fn) (k : Nat) : (fnCs l).take k = fnCs (l.take k) := by simp [fnCs]
theorem fnCs_get {l : List Fn} {k : Nat} (hk : k < l.length) : (fnCs l).getD k [] = fnC l[k] := by simp [fnCs, List.getD_eq_getElem?_getD, hk]
@[simp] theorem fnCs_get' {l : List Fn} {k : Nat} (hk : k < l.length) : (fnCs l)[k]?.getD [] = fnC l[k] := by simp [fnCs, hk]
@[simp] theorem fnC_0 (f : Fn) : g (fnC f) 0 = S f.name := rfl
@[simp] theorem fnC_1 (f : Fn) : g (fnC f) 1 = srC f.sort := rfl
@[simp] theorem fnC_2 (f : Fn) : g (fnC f) 2 = I f.body.lab.1 := rfl
@[simp] theorem fnC_3 (f : Fn) : g (fnC f) 3 = I f.body.lab.2 := rfl
@[simp] theorem fnC_4 (f : Fn) : g (fnC f) 4 = .rs 3 (tmCs f.body.kids) := rfl
theorem fnames_step {l : List Fn} {k : Nat} (hk : k < l.length) : fnamesB (l.drop k) ((l.map (·.name)).take k) = (nameB l[k].name && !inN l[k].name ((l.map (·.name)).take k) && fnamesB (l.drop (k + 1)) ((l.map (·.name)).take (k + 1))) := by
  have e : (l.map (·.name)).take (k + 1) = (l.map (·.name)).take k ++ [l[k].name] := by rw [List.take_succ_eq_append_getElem (by simpa using hk)]; simp
  rw [List.drop_eq_getElem_cons hk, e]
  simp [fnamesB]
theorem scheme_Place_c (s : Sch) (ps : List Srt) (hl : s.funs.length ≤ 64) {h : Heap} {Q : AV → Heap → Prop} (hq : Q (pl (s.place ps)) h) : ACalls prog n_scheme_Place [sm s, .rs 1 (srCs ps)] h Q := by
  refine scheme_Place_call ?_
  unfold scheme_Place sm
  simp
  refine loop_up s.funs.length (fun k σ h' => ∃ x, σ = [I k, .rs 2 (syCs s.syms), x, .rs 1 (srCs ps)] ∧ SlO 1 (srCs ((s.funs.take k).map (·.sort))) h x h') ⟨.e0, rfl, by simp [srCs]; exact SlO.nil 1⟩ (fun k σ' h' ⟨x, e, _⟩ => by rw [e]; rfl) ?_
  rintro k σ' h' K hk ⟨x, rfl, hs⟩ hK
  by_cases hlt : k < s.funs.length
  · have hlt' : (k : Int) < s.funs.length := by omega
    simp [hlt', hlt]
    refine hs.app (by simp; omega) fun x2 h3 hs2 => ?_
    rw [hs2.one, wrap_k (k := k) (by omega)]
    refine hK hlt _ _ ⟨x2, rfl, ?_⟩
    rw [List.take_succ_eq_append_getElem hlt, List.map_append, srCs_eq, List.map_append, ← srCs_eq]
    exact hs2
  · have hkn : k = s.funs.length := by omega
    subst hkn
    simp
    rw [List.take_length] at hs
    obtain ⟨r1, r2⟩ := hs.wk (srCs_sz _)
    exact retA_wk (Ref.aggs (.cons .refl (.cons r1 (.cons .refl .nil)))) r2 hq
theorem vref03_Place_c (s : Sch) {i : Nat} (hi : i < s.funs.length) (hl : s.funs.length ≤ 64) {h : Heap} {Q : AV → Heap → Prop} (hq : Q (pl (s.place s.funs[i].sort.kids)) h) : ACalls prog n_vref03_Place [sm s, I i] h Q := by
  refine vref03_Place_call ?_
  unfold vref03_Place sm
  have hi' : (i : Int) < s.funs.length := by omega
  simp [hi', hi, fnC, srC_eq]
  refine loop_up s.funs.length (fun k σ h' => ∃ x, σ = [I k, .rs 2 (syCs s.syms), x, .rs 1 (srCs s.funs[i].sort.kids)] ∧ SlO 1 (srCs ((s.funs.take k).map (·.sort))) h x h') ⟨.e0, rfl, by simp [srCs]; exact SlO.nil 1⟩ (fun k σ' h' ⟨x, e, _⟩ => by rw [e]; rfl) ?_
  rintro k σ' h' K hk ⟨x, rfl, hs⟩ hK
  by_cases hlt : k < s.funs.length
  · have hlt' : (k : Int) < s.funs.length := by omega
    simp [hlt', hlt]
    refine hs.app (by simp; omega) fun x2 h3 hs2 => ?_
    rw [hs2.one, wrap_k (k := k) (by omega)]
    refine hK hlt _ _ ⟨x2, rfl, ?_⟩
    rw [List.take_succ_eq_append_getElem hlt, List.map_append, srCs_eq, List.map_append, ← srCs_eq]
    exact hs2
  · have hkn : k = s.funs.length := by omega
    subst hkn
    simp
    rw [List.take_length] at hs
    obtain ⟨r1, r2⟩ := hs.wk (srCs_sz _)
    exact retA_wk (Ref.aggs (.cons .refl (.cons r1 (.cons .refl .nil)))) r2 hq
theorem term_Place_Of_c (p : Pl) (hp : PlOk p) (t : Tm) {h : Heap} {Q : AV → Heap → Prop} (ht : t.nodes ≤ 1000000000) (hq : Q (.tup [sr (sortR p t).1, B (sortR p t).2]) h) : ACalls prog n_term_Place_Of [pl p, tm t] h Q := by
  refine term_Place_Of_call ?_
  unfold term_Place_Of
  simp [pl, tm]
  refine callS_of ?_
  simp only [tm_eta, pl_eta]
  refine term_Place_sort_c p hp t ht ?_
  simp [sr]
  exact retA_of hq
theorem headB_get {l : List Fn} (hl : 0 < l.length) : headB l = decide (l[0].sort.kids.length = 0) := by
  cases l with
  | nil => simp at hl
  | cons f r => rfl
theorem scheme_Check_c (s : Sch) {h : Heap} {Q : AV → Heap → Prop} (hq : Q (I (if schB s then 0 else 7)) h) : ACalls prog n_scheme_Check [sm s] h Q := by
  have hF : ∀ {h' : Heap}, HRef h' h → ¬ SOk s → retA (I 7) h' Q := fun hh hn => by
    have : schB s = false := Bool.eq_false_iff.2 fun e => hn ((schB_iff s).1 e)
    exact retA_wk .refl hh (by rw [this] at hq; simpa using hq)
  refine scheme_Check_call ?_
  unfold scheme_Check sm
  simp only [w_agg, List.length_cons, List.length_nil, true_and, g_0, g_1, w_len_rs, syCs_len, fnCs_len, w_gtr, w_brA, decide_eq_true_eq]
  split
  · rename_i c
    exact hF (HRef.refl h) fun H => by have := H.syms; simp only [Bool.and_eq_true, decide_eq_true_eq] at this; omega
  rename_i c1
  refine callS_of (term_Symbols_c _ (by omega) ?_)
  cases h1 : (symsB s.syms [] && decide (s.syms.length ≤ 24)) with
  | false => simp; exact hF (HRef.refl h) fun H => by rw [H.syms] at h1; cases h1
  | true =>
  simp only [w_notA, w_brA, Bool.not_true, Bool.false_eq_true, if_false, w_eql, decide_eq_true_eq]
  split
  · exact hF (HRef.refl h) fun H => by have := H.pos; omega
  split
  · exact hF (HRef.refl h) fun H => by have := H.few; omega
  rename_i c2 c3
  have hpos : 0 < s.funs.length := by omega
  have hpos' : (0 : Int) < s.funs.length := by omega
  have hhd := headB_get hpos
  have e0 : (fnCs s.funs).getD (0 : Int).toNat [] = fnC s.funs[0] := fnCs_get hpos
  simp only [w_idx_rs, fnCs_len, e0, w_fld_ro, fnC, List.drop_succ_cons, List.drop_zero, w_loadV_ro, srC_eq, w_len_rs, srCs_len, w_gtr, w_brA, decide_eq_true_eq, true_and]
  refine ⟨by omega, hpos', ?_⟩
  split
  · exact hF (HRef.refl h) fun H => by have := H.head; rw [hhd, decide_eq_true_eq] at this; omega
  rename_i c4
  have hh0 : headB s.funs = true := by rw [hhd, decide_eq_true_eq]; omega
  intro id hid
  have hdrop : ∀ n, HRef (h.set id n) h := fun n => HRef.drop hid
  refine loop_up s.funs.length (fun k σ h' => σ = [I k] ∧ h' = h.set id (.map (nmE ((s.funs.map (·.name)).take k))) ∧ fnamesB s.funs [] = fnamesB (s.funs.drop k) ((s.funs.map (·.name)).take k) ∧ ∀ i (hi : i < s.funs.length), i < k → okS s.funs[i].sort = true) ⟨rfl, by simp [nmE], by simp, fun i hi h0 => by omega⟩ (fun k σ' h' ⟨e, _⟩ => by rw [e]; rfl) ?_
  rintro k σ' h' K hk ⟨rfl, rfl, hi, hok⟩ hK
  by_cases hlt : k < s.funs.length
  · have hlt' : (k : Int) < s.funs.length := by omega
    have hh := Heap.set_same h id (.map (nmE ((s.funs.map (·.name)).take k)))
    simp [hlt', hlt]
    refine callS_of (term_Name_c _ ?_)
    rw [fnames_step hlt] at hi
    cases n1 : nameB s.funs[k].name with
    | false => simp; exact hF (hdrop _) fun H => by rw [H.names, n1] at hi; simp at hi
    | true =>
      simp
      refine look_names hh _ _ ?_
      cases n2 : inN s.funs[k].name ((s.funs.map (·.name)).take k) with
      | true => simp; exact hF (hdrop _) fun H => by rw [H.names, n2] at hi; simp at hi
      | false =>
        simp
        refine callS_of ?_
        rw [sr_eta]
        refine sorts_Check_c _ ?_
        cases n3 : okS s.funs[k].sort with
        | false => simp; exact hF (hdrop _) fun H => by have := ((okF_iff _).1 (H.ok _ (List.getElem_mem hlt))).1; rw [n3] at this; cases this
        | true =>
          simp
          refine upd_names hh _ n2 _ ?_
          simp [wrap_k (k := k) (by omega)]
          refine hK hlt _ _ ⟨rfl, ?_, ?_, fun i hi2 hik => ?_⟩
          · rw [List.take_succ_eq_append_getElem (by simpa using hlt)]; simp
          · rw [hi]; simp [n1, n2]
          · by_cases e : i = k
            · subst e; exact n3
            · exact hok i hi2 (by omega)
  · have hkn : k = s.funs.length := by omega
    subst hkn
    have hnm : fnamesB s.funs [] = true := by rw [hi, List.drop_length]; rfl
    have hS : ∀ f, f ∈ s.funs → okS f.sort = true := fun f hf => by
      obtain ⟨i, hi, rfl⟩ := List.mem_iff_getElem.1 hf
      exact hok i hi hi
    simp
    refine loop_up s.funs.length (fun k σ h' => σ = [I k] ∧ h' = h.set id (.map (nmE ((s.funs.map (·.name)).take s.funs.length))) ∧ ∀ i (hi : i < s.funs.length), i < k → okF s.funs[i] = true ∧ typedB s s.funs[i] = true) ⟨rfl, by simp, fun i hi h0 => by omega⟩ (fun k σ' h' ⟨e, _⟩ => by rw [e]; rfl) ?_
    rintro k σ' h' K hk ⟨rfl, rfl, hok2⟩ hK
    by_cases hlt : k < s.funs.length
    · have hlt' : (k : Int) < s.funs.length := by omega
      simp [hlt', hlt]
      refine callS_of ?_
      rw [tm_eta]
      refine term_Size_c _ ?_
      simp
      have hfm := List.getElem_mem hlt
      by_cases n1 : s.funs[k].body.nodes ≤ 400
      · have e1 : szN 100000 s.funs[k].body = s.funs[k].body.nodes := by simp [szN]; omega
        have e2 : szD 100000 s.funs[k].body = s.funs[k].body.depth := by simp [szD]; omega
        have n1' : ¬ (400 : Int) < s.funs[k].body.nodes := by omega
        simp [e1, e2, n1']
        by_cases n2 : s.funs[k].body.depth ≤ 30
        · have n2' : ¬ (30 : Int) < s.funs[k].body.depth := by omega
          simp [n2']
          refine callS_of ?_
          rw [srC_eq, sm_eta]
          refine scheme_Place_c s _ (by omega) ?_
          refine callS_of ?_
          have hpo := place_ok h1 (by omega) hS hfm
          refine term_Place_Of_c _ hpo _ (by omega) ?_
          simp [sr, srC_eq]
          have ht : typedB s s.funs[k] = ((sortR (s.place s.funs[k].sort.kids) s.funs[k].body).2 && decide ((sortR (s.place s.funs[k].sort.kids) s.funs[k].body).1.kids.length = 0)) := rfl
          cases n3 : (sortR (s.place s.funs[k].sort.kids) s.funs[k].body).2 with
          | false => simp; exact hF (hdrop _) fun H => by have := H.typed _ hfm; rw [ht, n3] at this; cases this
          | true =>
            simp
            by_cases n4 : (sortR (s.place s.funs[k].sort.kids) s.funs[k].body).1.kids.length = 0
            · simp [n4, wrap_k (k := k) (by omega)]
              refine hK hlt _ _ ⟨rfl, by simp, fun i hi2 hik => ?_⟩
              by_cases e : i = k
              · subst e; exact ⟨(okF_iff _).2 ⟨hS _ hfm, n1, n2⟩, by rw [ht, n3, n4]; rfl⟩
              · exact hok2 i hi2 (by omega)
            · have n4' : 0 < (sortR (s.place s.funs[k].sort.kids) s.funs[k].body).1.kids.length := by omega
              simp [n4']
              exact hF (hdrop _) fun H => by have := H.typed _ hfm; rw [ht, n3, decide_eq_false n4] at this; cases this
        · have n2' : (30 : Int) < s.funs[k].body.depth := by omega
          simp [n2']; exact hF (hdrop _) fun H => by have := ((okF_iff _).1 (H.ok _ hfm)).2.2; omega
      · have n1' : (400 : Int) < szN 100000 s.funs[k].body := by unfold szN; split <;> omega
        simp [n1']; exact hF (hdrop _) fun H => by have := ((okF_iff _).1 (H.ok _ hfm)).2.1; omega
    · have hkn : k = s.funs.length := by omega
      subst hkn
      have H : SOk s := ⟨h1, by omega, by omega, hh0, hnm, fun f hf => by
        obtain ⟨i, hi, rfl⟩ := List.mem_iff_getElem.1 hf
        exact (hok2 i hi hi).1, fun f hf => by
        obtain ⟨i, hi, rfl⟩ := List.mem_iff_getElem.1 hf
        exact (hok2 i hi hi).2⟩
      simp
      exact retA_wk .refl (HRef.drop hid) (by rw [(schB_iff s).2 H] at hq; simpa using hq)
end Am
/- Contracts: the reference's schemes: validity, copies, equality. -/
set_option linter.unusedVariables false
set_option linter.unusedSimpArgs false
namespace Am
open Go Go.Proofs.Try
open Rt (eqR eqRL eqR_iff)
theorem vref03_Is_c (s : Sch) {h : Heap} {Q : AV → Heap → Prop} (hq : Q (B (schB s)) h) : ACalls prog n_vref03_Is [sm s] h Q := by
  have hF : ¬ SOk s → retA (B false) h Q := fun hn => by
    have : schB s = false := Bool.eq_false_iff.2 fun e => hn ((schB_iff s).1 e)
    exact retA_of (by rw [this] at hq; exact hq)
  refine vref03_Is_call ?_
  unfold vref03_Is sm
  simp only [w_agg, List.length_cons, List.length_nil, true_and, g_0, g_1, w_len_rs, syCs_len, fnCs_len, w_gtr, w_lss, w_brA, decide_eq_true_eq]
  refine callS_of (vref02_Symbols_c _ ?_)
  cases h1 : (symsB s.syms [] && decide (s.syms.length ≤ 24)) with
  | false => simp; exact hF fun H => by rw [H.syms] at h1; cases h1
  | true =>
  simp only [w_notA, w_brA, Bool.not_true, Bool.false_eq_true, if_false, decide_eq_true_eq]
  split
  · exact hF fun H => by have := H.pos; omega
  split
  · exact hF fun H => by have := H.few; omega
  rename_i c2 c3
  have hpos : 0 < s.funs.length := by omega
  have hpos' : (0 : Int) < s.funs.length := by omega
  have hhd := headB_get hpos
  refine loop_ix s.funs.length (fun k => fnamesB s.funs [] = fnamesB (s.funs.drop k) ((s.funs.map (·.name)).take k) ∧ ∀ i (hi : i < s.funs.length), i < k → okF s.funs[i] = true) ⟨by simp, fun i hi h0 => by omega⟩ ?_
  rintro k hk ⟨hi, hok⟩ K hK
  by_cases hlt : k < s.funs.length
  · have hlt' : (k : Int) < s.funs.length := by omega
    have hfm := List.getElem_mem hlt
    simp [hlt', hlt]
    refine callS_of (vref02_Name_c _ ?_)
    rw [fnames_step hlt] at hi
    cases n1 : nameB s.funs[k].name with
    | false => simp; exact hF fun H => by rw [H.names, n1] at hi; simp at hi
    | true =>
    simp
    refine callS_of ?_
    rw [sr_eta]
    refine vref01_Is_c _ ?_
    cases n2 : okS s.funs[k].sort with
    | false => simp; exact hF fun H => by have := ((okF_iff _).1 (H.ok _ hfm)).1; rw [n2] at this; cases this
    | true =>
    simp
    refine callS_of ?_
    rw [tm_eta]
    refine vref02_Nodes_c _ (m := 400) (by omega) ?_
    have e1 : decide ((400 : Int) < ((min s.funs[k].body.nodes (400 + 1) : Nat) : Int)) = decide (400 < s.funs[k].body.nodes) := by rw [decide_eq_decide]; omega
    rw [w_gtr, e1, w_brA]
    by_cases n3 : 400 < s.funs[k].body.nodes
    · simp only [n3, decide_true, if_true]; exact hF fun H => by have := ((okF_iff _).1 (H.ok _ hfm)).2.1; omega
    simp only [n3, decide_false, Bool.false_eq_true, if_false]
    refine callS_of (vref02_Depth_c _ (by omega) ?_)
    by_cases n4 : 30 < s.funs[k].body.depth
    · have n4' : (30 : Int) < s.funs[k].body.depth := by omega
      simp [n4']; exact hF fun H => by have := ((okF_iff _).1 (H.ok _ hfm)).2.2; omega
    have n4' : ¬ (30 : Int) < s.funs[k].body.depth := by omega
    have hkl : k ≤ s.funs.length := by omega
    have hkI : (k : Int) ≤ s.funs.length := by omega
    have hmin : min (k : Int) (s.funs.length : Int) = k := by omega
    have hmN : min k s.funs.length = k := Nat.min_eq_left hkl
    simp [n4', hkl, hkI, hmin, hmN]
    refine loop_ix k (fun j => inN s.funs[k].name ((s.funs.map (·.name)).take k) = inN s.funs[k].name (((s.funs.map (·.name)).take k).drop j)) (by simp) fun j hj hij K2 hK2 => ?_
    by_cases hjk : j < k
    · have hjk' : (j : Int) < k := by omega
      have hjl : j < s.funs.length := by omega
      have hjl' : (j : Int) < s.funs.length := by omega
      simp [hjk', hjk, hjl, hjl', hmN]
      rw [inN_take (by simp; omega)] at hij
      have e0 : ((s.funs.map (·.name)).take k)[j]'(by simp; omega) = s.funs[j].name := by simp
      rw [e0] at hij
      cases he : s.funs[k].name.toList == s.funs[j].name.toList with
      | true =>
        have he' : s.funs[k].name.toList = s.funs[j].name.toList := eq_of_beq he
        simp [he']
        rw [he] at hij
        exact hF fun H => by rw [H.names, hij] at hi; simp at hi
      | false =>
        have he' : ¬ s.funs[k].name.toList = s.funs[j].name.toList := by simpa using he
        simp [he', wrap_k (k := j) (by omega)]
        exact hK2 hjk (by rw [hij, he]; simp)
    · have : j = k := by omega
      subst this
      have hn : inN s.funs[j].name ((s.funs.map (·.name)).take j) = false := by
        rw [hij, List.drop_eq_nil_of_le (by simp; omega)]; rfl
      simp [wrap_k (k := j) (by omega)]
      refine hK hlt ⟨by rw [hi, n1, hn]; simp, fun i hi2 hij => ?_⟩
      by_cases e : i = j
      · subst e; exact (okF_iff _).2 ⟨n2, by omega, by omega⟩
      · exact hok i hi2 (by omega)
  · have hkn : k = s.funs.length := by omega
    subst hkn
    have hnm : fnamesB s.funs [] = true := by rw [hi, List.drop_length]; rfl
    have hO : ∀ f, f ∈ s.funs → okF f = true := fun f hf => by
      obtain ⟨i, hi, rfl⟩ := List.mem_iff_getElem.1 hf
      exact hok i hi hi
    have e0 : (fnCs s.funs).getD (0 : Int).toNat [] = fnC s.funs[0] := fnCs_get hpos
    simp only [g_0, w_lss, Int.lt_irrefl, decide_false, w_brA, Bool.false_eq_true, if_false]
    simp only [w_idx_rs, fnCs_len, e0, w_fld_ro, fnC, List.drop_succ_cons, List.drop_zero, w_loadV_ro, srC_eq, w_len_rs, srCs_len, w_gtr, w_brA, decide_eq_true_eq, true_and]
    refine ⟨by omega, hpos', ?_⟩
    split
    · exact hF fun H => by have := H.head; rw [hhd, decide_eq_true_eq] at this; omega
    rename_i c4
    have hh0 : headB s.funs = true := by rw [hhd, decide_eq_true_eq]; omega
    refine loop_ix s.funs.length (fun k => ∀ i (hi : i < s.funs.length), i < k → typedB s s.funs[i] = true) (fun i hi h0 => by omega) ?_
    rintro k hk hok2 K hK
    by_cases hlt : k < s.funs.length
    · have hlt' : (k : Int) < s.funs.length := by omega
      have hfm := List.getElem_mem hlt
      have hf := (okF_iff _).1 (hO _ hfm)
      simp [hlt', hlt]
      refine callS_of ?_
      rw [sm_eta]
      refine vref03_Place_c s hlt (by omega) ?_
      refine callS_of ?_
      rw [tm_eta]
      have hpo := place_ok h1 (by omega) (fun g hg => ((okF_iff g).1 (hO g hg)).1) hfm
      refine vref02_Of_c _ hpo _ (by omega) ?_
      simp [sr, srC_eq]
      have ht : typedB s s.funs[k] = ((sortR (s.place s.funs[k].sort.kids) s.funs[k].body).2 && decide ((sortR (s.place s.funs[k].sort.kids) s.funs[k].body).1.kids.length = 0)) := rfl
      cases n3 : (sortR (s.place s.funs[k].sort.kids) s.funs[k].body).2 with
      | false => simp; exact hF fun H => by have := H.typed _ hfm; rw [ht, n3] at this; cases this
      | true =>
        simp
        by_cases n4 : (sortR (s.place s.funs[k].sort.kids) s.funs[k].body).1.kids.length = 0
        · simp [n4, wrap_k (k := k) (by omega)]
          refine hK hlt fun i hi2 hik => ?_
          by_cases e : i = k
          · subst e; rw [ht, n3, n4]; rfl
          · exact hok2 i hi2 (by omega)
        · have n4' : 0 < (sortR (s.place s.funs[k].sort.kids) s.funs[k].body).1.kids.length := by omega
          simp [n4']
          exact hF fun H => by have := H.typed _ hfm; rw [ht, n3, decide_eq_false n4] at this; cases this
    · have hkn : k = s.funs.length := by omega
      subst hkn
      have H : SOk s := ⟨h1, by omega, by omega, hh0, hnm, hO, fun f hf => by
        obtain ⟨i, hi, rfl⟩ := List.mem_iff_getElem.1 hf
        exact hok2 i hi hi⟩
      simp
      exact retA_of (by rw [(schB_iff s).2 H] at hq; exact hq)
theorem fnCs_snoc {l : List Fn} {k : Nat} (hk : k < l.length) : fnCs (l.take (k + 1)) = fnCs (l.take k) ++ [fnC l[k]] := by
  unfold fnCs; rw [List.take_succ_eq_append_getElem hk, List.map_append]; rfl
theorem fnCs_sz (l : List Fn) : ∀ i, i < (fnCs l).length → ((fnCs l).getD i []).length = 5 := fun i hi => by
  rw [fnCs_get (by simpa using hi)]; rfl
theorem syCs_sz (l : List Sy) : ∀ i, i < (syCs l).length → ((syCs l).getD i []).length = 2 := fun i hi => by
  have h : i < l.length := by simpa using hi
  simp [syCs, List.getD_eq_getElem?_getD, h]
/-- A copy of a list of symbols: what the append makes freezes at once. -/
theorem SOk.nsyms {s : Sch} (H : SOk s) : s.syms.length ≤ 24 := by have := H.syms; simp only [Bool.and_eq_true, decide_eq_true_eq] at this; exact this.2
theorem SOk.body {s : Sch} (H : SOk s) {f : Fn} (hf : f ∈ s.funs) : f.body.nodes ≤ 400 := ((okF_iff f).1 (H.ok f hf)).2.1
theorem SOk.srt {s : Sch} (H : SOk s) {f : Fn} (hf : f ∈ s.funs) : okS f.sort = true := ((okF_iff f).1 (H.ok f hf)).1
theorem SlO.wk2 {h h1 h2 : Heap} {sz1 sz2 : Nat} {els1 els2 : List (List AV)} {x1 x2 : AV} (a : SlO sz1 els1 h x1 h1) (b : SlO sz2 els2 h1 x2 h2) (z1 : ∀ i, i < els1.length → (els1.getD i []).length = sz1) (z2 : ∀ i, i < els2.length → (els2.getD i []).length = sz2) :
    Ref h2 h x1 (.rs sz1 els1) ∧ Ref h2 h x2 (.rs sz2 els2) ∧ HRef h2 h := by
  rcases a with ⟨rfl, rfl, rfl⟩ | ⟨hne, id, hi, rfl, rfl⟩
  · exact ⟨.e0, (b.wk z2).1, (b.wk z2).2⟩
  · rcases b with ⟨rfl, rfl, rfl⟩ | ⟨hne2, id2, hi2, rfl, rfl⟩
    · exact ⟨.frz (Heap.set_same _ _ _) hi (Nat.le_refl _) rfl z1 fun i j _ _ => .refl, .e0, HRef.drop hi⟩
    · have hn : id2 ≠ id := fun e => by subst e; rw [Heap.set_same] at hi2; cases hi2
      have hi2' : h id2 = none := by rw [Heap.set_ne hn] at hi2; exact hi2
      refine ⟨.frz (els := els1) (by rw [Heap.set_ne (fun e => hn e.symm), Heap.set_same]) hi (Nat.le_refl _) rfl z1 fun i j _ _ => .refl, .frz (Heap.set_same _ _ _) hi2' (Nat.le_refl _) rfl z2 fun i j _ _ => .refl, HRef.sub fun j n hj => ?_⟩
      rw [Heap.set_ne, Heap.set_ne]
      · exact hj
      · rintro rfl; rw [hi] at hj; cases hj
      · rintro rfl; rw [hi2'] at hj; cases hj
theorem vref03_Copy_c (s : Sch) (H : SOk s) {h : Heap} {Q : AV → Heap → Prop} (hq : Q (sm s) h) : ACalls prog n_vref03_Copy [sm s] h Q := by
  refine vref03_Copy_call ?_
  unfold vref03_Copy sm
  have hsy := H.nsyms
  have hfw := H.few
  simp only [w_agg, List.length_cons, List.length_nil, true_and, g_0, g_1]
  refine (SlO.nil 2).app (ys := syCs s.syms) (by simp; omega) fun x h1 hs1 => ?_
  rw [List.nil_append] at hs1
  rw [hs1.one]
  simp
  refine loop_up s.funs.length (fun k σ h' => ∃ y, σ = [I k, x, y] ∧ SlO 5 (fnCs (s.funs.take k)) h1 y h') ⟨.e0, rfl, by simp [fnCs]; exact SlO.nil 5⟩ (fun k σ' h' ⟨x, e, _⟩ => by rw [e]; rfl) ?_
  rintro k σ' h' K hk ⟨y, rfl, hs⟩ hK
  by_cases hlt : k < s.funs.length
  · have hlt' : (k : Int) < s.funs.length := by omega
    have hfm := List.getElem_mem hlt
    have hb := H.body hfm
    have hn := okS_nodes (H.srt hfm)
    simp [hlt', hlt]
    refine callS_of ?_
    rw [sr_eta]
    refine vref01_Copy_f _ (by omega) ?_
    refine callS_of ?_
    rw [tm_eta]
    refine vref02_Copy_f _ (by omega) ?_
    simp [sr, tm]
    refine hs.app (by simp; omega) fun x2 h3 hs2 => ?_
    rw [hs2.one, wrap_k (k := k) (by omega)]
    refine hK hlt _ _ ⟨x2, rfl, ?_⟩
    rw [fnCs_snoc hlt]
    exact hs2
  · have hkn : k = s.funs.length := by omega
    subst hkn
    simp
    rw [List.take_length] at hs
    obtain ⟨r1, r2, r3⟩ := hs1.wk2 hs (syCs_sz _) (fnCs_sz _)
    exact retA_wk (Ref.aggs (.cons r1 (.cons r2 .nil))) r3 hq
theorem eqCells_refl : ∀ (s : Sy), eqCells [.str, .int .i64] [S s.1, I s.2] [S s.1, I s.2] = some true := fun s => by
  simp [eqCells, eqCell]
theorem vref03_Equal_r (s : Sch) (H : SOk s) {h : Heap} {Q : AV → Heap → Prop} (hq : Q (B true) h) : ACalls prog n_vref03_Equal [sm s, sm s] h Q := by
  refine vref03_Equal_call ?_
  unfold vref03_Equal sm
  have hsy := H.nsyms
  have hfw := H.few
  simp
  refine loop_ix s.syms.length (fun _ => True) trivial fun k hk _ K hK => ?_
  by_cases hlt : k < s.syms.length
  · have hlt' : (k : Int) < s.syms.length := by omega
    simp [hlt', hlt]
    refine ⟨rfl, rfl, ?_⟩
    rw [eqCells_refl]
    simp [wrap_k (k := k) (by omega)]
    exact hK hlt trivial
  · have hkn : k = s.syms.length := by omega
    subst hkn
    simp
    refine loop_ix s.funs.length (fun _ => True) trivial fun k hk _ K hK => ?_
    by_cases hlt : k < s.funs.length
    · have hlt' : (k : Int) < s.funs.length := by omega
      have hfm := List.getElem_mem hlt
      have hb := H.body hfm
      have hn := okS_nodes (H.srt hfm)
      simp [hlt', hlt, fnC]
      refine callS_of ?_
      rw [sr_eta]
      refine vref01_Equal_c _ _ (by omega) ?_
      simp [Rt.eqR_refl]
      refine callS_of ?_
      rw [tm_eta]
      refine vref02_Equal_c _ _ (by omega) ?_
      simp [Rt.eqR_refl, wrap_k (k := k) (by omega)]
      exact hK hlt trivial
    · have hkn : k = s.funs.length := by omega
      subst hkn
      simp
      exact retA_of hq
theorem vref03_Same_r (s : Sch) (H : SOk s) {h : Heap} {Q : AV → Heap → Prop} (hq : Q (B true) h) : ACalls prog n_vref03_Same [sm s, sm s] h Q := by
  refine vref03_Same_call ?_
  unfold vref03_Same sm
  have hv := (schB_iff s).2 H
  simp
  refine callS_of ?_
  rw [sm_eta]
  refine vref03_Is_c s ?_
  simp only [hv, w_brA, if_true]
  refine callS_of (vref03_Is_c s ?_)
  simp only [hv, w_brA, if_true]
  exact callS_of (vref03_Equal_r s H (retA_of hq))
def nCs (l : List Nat) : List (List AV) := l.map fun v : Nat => [I (v : Int)]
theorem set_one {h : Heap} {p : Nat} {x y : AV} (hp : h p = some (.arr 1 [[x]])) {k : Heap → Prop} (hk : k (h.set p (.arr 1 [[y]]))) : storeG (.op p 0 0) [y] h k := by
  rw [w_store hp]
  exact ⟨by simp, by simp, hk⟩
theorem load_one {h : Heap} {p : Nat} {x : AV} (hp : h p = some (.arr 1 [[x]])) {k : AV → Prop} (hk : k x) : loadV (.op p 0 0) h k := by
  rw [w_loadV_op hp]
  exact ⟨by simp, by omega, hk⟩
end Am
