/- J3: joined of Ua, Ub, Uc, Ud, Ue, Uf, Ug, Uk. -/
import Derived.Test.YtoifckjdnldlpaaJ2
import Derived.Test.YtoifckjdnldlpaaFT
/- trim.changed: a term in new memory, each node turned by a function value that may keep a state of its own. -/
set_option linter.unusedVariables false
set_option linter.unusedSimpArgs false
namespace Am
open Go Go.Proofs.Try
mutual
def allT (P : Int × Int → Nat → Prop) : Tm → Prop
  | .mk a us => P a us.length ∧ allTL P us
def allTL (P : Int × Int → Nat → Prop) : List Tm → Prop
  | [] => True
  | t :: ts => allT P t ∧ allTL P ts
end
theorem allTL_mem {P : Int × Int → Nat → Prop} {us : List Tm} (h : allTL P us) : ∀ t, t ∈ us → allT P t := by
  induction us with
  | nil => intro t ht; cases ht
  | cons u us ih =>
    intro t ht
    rw [allTL] at h
    rcases List.mem_cons.1 ht with rfl | ht
    · exact h.1
    · exact ih h.2 t ht
section
variable {T : Type}
mutual
def chg (step : T → Tm → Tm × T) : T → Tm → Tm × T
  | s, .mk a us => step (chgL step s us).2 (.mk a (chgL step s us).1)
def chgL (step : T → Tm → Tm × T) : T → List Tm → List Tm × T
  | s, [] => ([], s)
  | s, t :: ts => ((chg step s t).1 :: (chgL step (chg step s t).2 ts).1, (chgL step (chg step s t).2 ts).2)
end
theorem chgL_app (step : T → Tm → Tm × T) (us : List Tm) (t : Tm) : ∀ s, chgL step s (us ++ [t]) = ((chgL step s us).1 ++ [(chg step (chgL step s us).2 t).1], (chg step (chgL step s us).2 t).2) := by
  induction us with
  | nil => intro s; simp [chgL]
  | cons u us ih => intro s; simp only [List.cons_append, chgL, ih]
theorem chgL_snoc (step : T → Tm → Tm × T) (s : T) {us : List Tm} {k : Nat} (hk : k < us.length) : chgL step s (us.take (k + 1)) = ((chgL step s (us.take k)).1 ++ [(chg step (chgL step s (us.take k)).2 us[k]).1], (chg step (chgL step s (us.take k)).2 us[k]).2) := by
  rw [List.take_succ_eq_append_getElem hk, chgL_app]
theorem chgL_len (step : T → Tm → Tm × T) (us : List Tm) : ∀ s, (chgL step s us).1.length = us.length := by
  induction us with
  | nil => intro s; rfl
  | cons u us ih => intro s; simp [chgL, ih]
/-- A function value that turns nodes: R tells its state's cells C. -/
structure Turner (F : Nat) (caps : List AV) (C : List Nat) (R : T → Heap → Prop) (P : Int × Int → Nat → Prop) (step : T → Tm → Tm × T) : Prop where
  call : ∀ (s : T) (a : Int × Int) (us : List Tm) (h : Heap) (Q : AV → Heap → Prop), R s h → P a us.length → us.length ≤ 1000000000 →
    (∀ h', R (step s (.mk a us)).2 h' → (∀ j, ¬ j ∈ C → h' j = h j) → Q (tm (step s (.mk a us)).1) h') → ACalls prog F (tm (.mk a us) :: caps) h Q
  live : ∀ s h, R s h → ∀ j, j ∈ C → ∃ n, h j = some n
  loc : ∀ s h h', R s h → (∀ j, j ∈ C → h' j = h j) → R s h'
/-- The base of an appended slice, when the state's cells have turned. -/
theorem SlO.turn {sz : Nat} {els : List (List AV)} {h h1 h2 : Heap} {x : AV} {C : List Nat} (hs : SlO sz els h x h1) (hl : ∀ j, j ∈ C → ∃ n, h j = some n) (hf : ∀ j, ¬ j ∈ C → h2 j = h1 j) :
    ∃ hb, SlO sz els hb x h2 ∧ (∀ j, j ∈ C → hb j = h2 j) ∧ ∀ j, ¬ j ∈ C → hb j = h j := by
  classical
  rcases hs with ⟨rfl, rfl, rfl⟩ | ⟨hne, id, hi, rfl, rfl⟩
  · exact ⟨h2, .inl ⟨rfl, rfl, rfl⟩, fun _ _ => rfl, hf⟩
  · have hid : ¬ id ∈ C := fun e => by obtain ⟨n, hn⟩ := hl id e; rw [hi] at hn; cases hn
    refine ⟨fun j => if j ∈ C then h2 j else h j, .inr ⟨hne, id, by simp [hid, hi], rfl, ?_⟩, fun j hj => by simp [hj], fun j hj => by simp [hj]⟩
    funext j
    by_cases e : j = id
    · subst e; rw [Heap.set_same, hf j hid, Heap.set_same]
    · rw [Heap.set_ne e]
      by_cases hj : j ∈ C
      · simp [hj]
      · simp only [hj, if_false]; rw [hf j hj, Heap.set_ne e]
theorem SlO.same {sz : Nat} {els : List (List AV)} {h h' : Heap} {x : AV} {j : Nat} (hs : SlO sz els h x h') (hl : ∃ n, h j = some n) : h' j = h j := by
  rcases hs with ⟨rfl, rfl, rfl⟩ | ⟨hne, id, hi, rfl, rfl⟩
  · rfl
  · rw [Heap.set_ne]; rintro rfl; obtain ⟨n, hn⟩ := hl; rw [hi] at hn; cases hn
theorem trim_changed_c {F : Nat} {caps : List AV} {C : List Nat} {R : T → Heap → Prop} {P : Int × Int → Nat → Prop} {step : T → Tm → Tm × T} (U : Turner F caps C R P step) (t : Tm) :
    ∀ {s : T} {h : Heap} {Q : AV → Heap → Prop}, R s h → allT P t → t.nodes ≤ 1000000000 → (∀ h', R (chg step s t).2 h' → (∀ j, ¬ j ∈ C → h' j = h j) → Q (tm (chg step s t).1) h') → ACalls prog n_trim_changed [tm t, .fn F caps] h Q := by
  refine Rt.ind (P := fun t => ∀ {s : T} {h : Heap} {Q : AV → Heap → Prop}, R s h → allT P t → t.nodes ≤ 1000000000 → (∀ h', R (chg step s t).2 h' → (∀ j, ¬ j ∈ C → h' j = h j) → Q (tm (chg step s t).1) h') → ACalls prog n_trim_changed [tm t, .fn F caps] h Q) (fun a us ih => ?_) t
  intro s h Q hr hp hm hq
  refine trim_changed_call ?_
  unfold trim_changed tm
  simp only [Rt.nodes] at hm
  rw [allT] at hp
  have hlen := Rt.length_le us
  simp [tmC]
  refine loop_up us.length (fun k σ h' => ∃ x hb, σ = [x, I k] ∧ SlO 3 (tmCs (chgL step s (us.take k)).1) hb x h' ∧ R (chgL step s (us.take k)).2 hb ∧ ∀ j, ¬ j ∈ C → hb j = h j) ⟨.e0, h, rfl, by simp [chgL, tmCs]; exact SlO.nil 3, by simpa [chgL] using hr, fun _ _ => rfl⟩ (fun k σ' h' ⟨x, _, e, _⟩ => by rw [e]; rfl) ?_
  rintro k σ' h' K hk ⟨x, hb, rfl, hs, hR, hf⟩ hK
  have hlv := U.live _ _ hR
  by_cases hlt : k < us.length
  · have hlt' : (k : Int) < us.length := by omega
    have hn := kid_nodes hlt
    simp [hlt', hlt]
    refine callS_of ?_
    rw [tm_eta]
    refine ih us[k] (List.getElem_mem hlt) (U.loc _ _ _ hR fun j hj => hs.same (hlv j hj)) (allTL_mem hp.2 _ (List.getElem_mem hlt)) (by omega) fun h2 hR2 hf2 => ?_
    obtain ⟨hb2, hs2, hc2, hn2⟩ := hs.turn hlv hf2
    have hcl := chgL_len step (us.take k) s
    rw [List.length_take] at hcl
    simp [tm]
    refine hs2.app (by simp; omega) fun x2 h3 hs3 => ?_
    rw [wrap_k (k := k) (by omega)]
    refine hK hlt _ _ ⟨x2, hb2, rfl, ?_, ?_, fun j hj => (hn2 j hj).trans (hf j hj)⟩
    · rw [chgL_snoc step s hlt]
      simp only
      rw [tmCs_eq, List.map_append, ← tmCs_eq, List.map_cons, List.map_nil, tmC_eq]
      exact hs3
    · rw [chgL_snoc step s hlt]
      exact U.loc _ _ _ hR2 hc2
  · have hkn : k = us.length := by omega
    subst hkn
    rw [List.take_length] at hs hR
    simp
    obtain ⟨r1, r2⟩ := hs.wk (tmCs_sz _)
    rw [hs.one]
    refine callS_wk (args' := tm (.mk a (chgL step s us).1) :: caps) (.cons (Ref.aggs (.cons .refl (.cons .refl (.cons r1 .nil)))) (Refs.refl caps)) r2 ?_
    have hcl := chgL_len step us s
    refine U.call _ a _ _ _ hR (by rw [hcl]; exact hp.1) (by omega) fun h2 hR2 hf2 => ?_
    have e : tm (step (chgL step s us).2 (.mk a (chgL step s us).1)).1 = .agg [I (chg step s (.mk a us)).1.lab.1, I (chg step s (.mk a us)).1.lab.2, .rs 3 (tmCs (chg step s (.mk a us)).1.kids)] := by
      rw [tm_eta, chg]
    rw [e]
    simp
    refine retA_of ?_
    rw [tm_eta]
    refine hq h2 (by rw [chg]; exact hR2) fun j hj => (hf2 j hj).trans (hf j hj)
end
end Am
/- trim.rewrite, without, copied: schemes in memory of their own. -/
set_option linter.unusedVariables false
set_option linter.unusedSimpArgs false
namespace Am
open Go Go.Proofs.Try
/-! ### Pure turners -/
mutual
def mapT (φ : Tm → Tm) : Tm → Tm
  | .mk a us => φ (.mk a (mapTL φ us))
def mapTL (φ : Tm → Tm) : List Tm → List Tm
  | [] => []
  | t :: ts => mapT φ t :: mapTL φ ts
end
theorem mapTL_eq (φ : Tm → Tm) (us : List Tm) : mapTL φ us = us.map (mapT φ) := by induction us with | nil => rfl | cons t us ih => simp [mapTL, ih]
def stepU (φ : Tm → Tm) : Unit → Tm → Tm × Unit := fun _ t => (φ t, ())
theorem chg_pure (φ : Tm → Tm) (t : Tm) : (chg (stepU φ) () t).1 = mapT φ t := by
  refine Rt.ind (P := fun t => (chg (stepU φ) () t).1 = mapT φ t) (fun a us ih => ?_) t
  have : ∀ (l : List Tm), (∀ t, t ∈ l → (chg (stepU φ) () t).1 = mapT φ t) → (chgL (stepU φ) () l).1 = mapTL φ l := fun l => by
    induction l with
    | nil => intro _; rfl
    | cons t l ihl => intro h; simp only [chgL, mapTL]; rw [h t (by simp)]; exact congrArg _ (ihl fun t ht => h t (by simp [ht]))
  rw [chg, mapT, this us ih]; rfl
/-- A turner that turns nothing else: what it looks at lies in the cells C. -/
structure PTurner (F : Nat) (caps : List AV) (C : List Nat) (R : Heap → Prop) (P : Int × Int → Nat → Prop) (φ : Tm → Tm) : Prop where
  call : ∀ (a : Int × Int) (us : List Tm) (h : Heap) (Q : AV → Heap → Prop), R h → P a us.length → us.length ≤ 1000000000 → Q (tm (φ (.mk a us))) h → ACalls prog F (tm (.mk a us) :: caps) h Q
  live : ∀ h, R h → ∀ j, j ∈ C → ∃ n, h j = some n
  loc : ∀ h h', R h → (∀ j, j ∈ C → h' j = h j) → R h'
theorem PTurner.changed {F : Nat} {caps : List AV} {C : List Nat} {R : Heap → Prop} {P : Int × Int → Nat → Prop} {φ : Tm → Tm} (U : PTurner F caps C R P φ) (t : Tm) {h : Heap} {Q : AV → Heap → Prop}
    (hr : R h) (hp : allT P t) (hm : t.nodes ≤ 1000000000) (hq : Q (tm (mapT φ t)) h) : ACalls prog n_trim_changed [tm t, .fn F caps] h Q := by
  have V : Turner F caps C (fun (_ : Unit) h' => ∀ j, j ∈ C → h' j = h j) P (stepU φ) :=
    ⟨fun s a us h' Q hr' hp hl hq => U.call a us h' Q (U.loc _ _ hr hr') hp hl (hq h' hr' fun _ _ => rfl),
     fun s h' hr' j hj => by obtain ⟨n, hn⟩ := U.live h hr j hj; exact ⟨n, by rw [hr' j hj]; exact hn⟩,
     fun s h1 h2 hr1 he j hj => (he j hj).trans (hr1 j hj)⟩
  refine trim_changed_c V t (s := ()) (fun _ _ => rfl) hp hm fun h' h1 h2 => ?_
  have e : h' = h := funext fun j => by
    by_cases hj : j ∈ C
    · exact h1 j hj
    · exact h2 j hj
  rw [e, chg_pure]; exact hq
theorem copied_1_turner : PTurner 197 [] [] (fun _ => True) (fun _ _ => True) id :=
  ⟨fun a us h Q _ _ _ hq => by
    refine trim_copied_1_call ?_
    unfold trim_copied_1 tm
    simp [tmC]
    exact retA_of hq, fun _ _ j hj => (by cases hj), fun _ _ _ _ => trivial⟩
theorem mapT_id (t : Tm) : mapT id t = t := by
  refine Rt.ind (P := fun t => mapT id t = t) (fun a us ih => ?_) t
  have : us.map (mapT id) = us.map id := List.map_congr_left ih
  rw [mapT, mapTL_eq, this, List.map_id]; rfl
theorem allT_true (t : Tm) : allT (fun _ _ => True) t := by
  refine Rt.ind (P := fun t => allT (fun _ _ => True) t) (fun a us ih => ?_) t
  have : ∀ l : List Tm, (∀ t, t ∈ l → allT (fun _ _ => True) t) → allTL (fun _ _ => True) l := fun l => by
    induction l with
    | nil => intro _; exact trivial
    | cons t l ihl => intro h; exact ⟨h t (by simp), ihl fun t ht => h t (by simp [ht])⟩
  exact ⟨trivial, this us ih⟩
theorem trim_sortOf_f (t : Srt) : ∀ {h : Heap} {Q : AV → Heap → Prop}, t.nodes ≤ 1000000000 → Q (sr t) h → ACalls prog n_trim_sortOf [sr t] h Q := by
  refine Rt.ind (P := fun t => ∀ {h : Heap} {Q : AV → Heap → Prop}, t.nodes ≤ 1000000000 → Q (sr t) h → ACalls prog n_trim_sortOf [sr t] h Q) (fun a us ih => ?_) t
  intro h Q hm hq
  refine trim_sortOf_call ?_
  unfold trim_sortOf sr
  simp only [Rt.nodes] at hm
  have hlen := Rt.length_le us
  simp [srC]
  refine loop_up us.length (fun k σ h' => ∃ x, σ = [I k, x] ∧ SlO 1 (srCs (us.take k)) h x h') ⟨.e0, rfl, by simp [srCs]; exact SlO.nil 1⟩ (fun k σ' h' ⟨x, e, _⟩ => by rw [e]; rfl) ?_
  rintro k σ' h' K hk ⟨x, rfl, hs⟩ hK
  by_cases hlt : k < us.length
  · have hlt' : (k : Int) < us.length := by omega
    have hn := kid_nodes hlt
    simp [hlt', hlt]
    refine callS_of ?_
    rw [sr_eta]
    refine ih us[k] (List.getElem_mem hlt) (by omega) ?_
    simp [sr]
    refine hs.app (by simp; omega) fun x2 h3 hs2 => ?_
    rw [hs2.one]
    rw [wrap_k (k := k) (by omega)]
    refine hK hlt _ _ ⟨x2, rfl, ?_⟩
    rw [srCs_snoc hlt]; exact hs2
  · have hkn : k = us.length := by omega
    subst hkn
    simp
    rw [List.take_length] at hs
    obtain ⟨r1, r2⟩ := hs.wk (srCs_sz _)
    exact retA_wk (Ref.aggs (.cons r1 .nil)) r2 hq
/-- The functions come in memory of their own; all else is frozen. -/
theorem trim_copied_c (s : Sch) (H : SOk s) {h : Heap} {Q : AV → Heap → Prop} (hq : ∀ d, h d = none → Q (.agg [.rs 2 (syCs s.syms), .os d s.funs.length]) (h.set d (.arr 5 (fnCs s.funs)))) : ACalls prog n_trim_copied [sm s] h Q := by
  refine trim_copied_call ?_
  unfold trim_copied sm
  have hsy := H.nsyms
  have hfw := H.few
  have hpos := H.pos
  simp only [w_agg, List.length_cons, List.length_nil, true_and, g_0, g_1]
  refine (SlO.nil 2).app (ys := syCs s.syms) (by simp; omega) fun x h1 hs1 => ?_
  rw [List.nil_append] at hs1
  rw [hs1.one]
  simp
  refine loop_up s.funs.length (fun k σ h' => ∃ y, σ = [I k, x, y] ∧ SlO 5 (fnCs (s.funs.take k)) h1 y h') ⟨.e0, rfl, by simp [fnCs]; exact SlO.nil 5⟩ (fun k σ' h' ⟨x, e, _⟩ => by rw [e]; rfl) ?_
  rintro k σ' h' K hk ⟨y, rfl, hs⟩ hK
  by_cases hlt : k < s.funs.length
  · have hlt' : (k : Int) < s.funs.length := by omega
    have hfm := List.getElem_mem hlt
    have hb := H.body hfm
    have hn := okS_nodes (H.srt hfm)
    simp [hlt', hlt]
    refine callS_of ?_
    rw [sr_eta]
    refine trim_sortOf_f _ (by omega) ?_
    refine callS_of ?_
    rw [tm_eta]
    refine copied_1_turner.changed _ trivial (allT_true _) (by omega) ?_
    rw [mapT_id]
    simp [sr, tm]
    refine hs.app (by simp; omega) fun x2 h3 hs2 => ?_
    rw [hs2.one, wrap_k (k := k) (by omega)]
    refine hK hlt _ _ ⟨x2, rfl, ?_⟩
    rw [fnCs_snoc hlt]
    exact hs2
  · have hkn : k = s.funs.length := by omega
    subst hkn
    simp
    rw [List.take_length] at hs
    obtain ⟨r1, r2⟩ := hs1.wk (syCs_sz _)
    rcases hs with ⟨he, _, _⟩ | ⟨hne, d, hd, rfl, rfl⟩
    · have h0 : (fnCs s.funs).length = 0 := by rw [he]; rfl
      rw [fnCs_len] at h0; omega
    have hd2 : h d = none := by
      cases hn : h d with
      | none => rfl
      | some n => obtain ⟨m, hm, _⟩ := r2 d n hn; rw [hd] at hm; cases hm
    rcases hs1 with ⟨he, rfl, rfl⟩ | ⟨hne1, d1, hd1, rfl, rfl⟩
    · rw [fnCs_len]
      exact retA_wk (Ref.aggs (.cons .e0 (.cons .refl .nil))) (HRef.refl _) (by rw [he] at hq; exact hq d hd)
    · have hne2 : d1 ≠ d := fun e => by subst e; rw [Heap.set_same] at hd; cases hd
      rw [fnCs_len]
      refine retA_wk (Ref.aggs (.cons (.frz (els := syCs s.syms) (by rw [Heap.set_ne hne2, Heap.set_same]) (by rw [Heap.set_ne hne2]; exact hd1) (Nat.le_refl _) rfl (syCs_sz _) fun i j _ _ => .refl) (.cons .refl .nil))) (HRef.sub fun j n hj => ?_) (hq d hd2)
      by_cases e : j = d
      · subst e; rw [Heap.set_same] at hj ⊢; exact hj
      · rw [Heap.set_ne e] at hj ⊢
        rw [Heap.set_ne]; exact hj
        rintro rfl; rw [hd1] at hj; cases hj
end Am
/- trim.rewrite: all bodies are turned in place. -/
set_option linter.unusedVariables false
set_option linter.unusedSimpArgs false
namespace Am
open Go Go.Proofs.Try
def reb (φ : Tm → Tm) (f : Fn) : Fn := ⟨f.name, f.sort, mapT φ f.body⟩
theorem fnCs_set (A B : List Fn) (f f' : Fn) : (fnCs (A ++ f :: B)).set A.length (fnC f') = fnCs (A ++ f' :: B) := by
  unfold fnCs
  simp
theorem fnCs_mid (A B : List Fn) (f : Fn) : (fnCs (A ++ f :: B)).getD A.length [] = fnC f := by
  unfold fnCs
  simp [List.getD_eq_getElem?_getD]
theorem trim_rewrite_c {F : Nat} {caps : List AV} {C : List Nat} {R : Heap → Prop} {P : Int × Int → Nat → Prop} {φ : Tm → Tm} (U : PTurner F caps C R P φ) {sy : List Sy} {l : List Fn} {c d : Nat} {h : Heap} {Q : AV → Heap → Prop}
    (hc : h c = some (.arr 2 [[.rs 2 (syCs sy), .os d l.length]])) (hd : h d = some (.arr 5 (fnCs l))) (hcd : c ≠ d) (hdC : ¬ d ∈ C) (hR : R h) (hP : ∀ f, f ∈ l → allT P f.body ∧ f.body.nodes ≤ 1000000000) (hl : l.length ≤ 64)
    (hq : Q (.tup []) (h.set d (.arr 5 (fnCs (l.map (reb φ)))))) : ACalls prog n_trim_rewrite [.op c 0 0, .fn F caps] h Q := by
  refine trim_rewrite_call ?_
  unfold trim_rewrite
  simp only [w_nil_op, w_fld_op]
  rw [w_loadV_op hc]
  refine ⟨by simp, by omega, ?_⟩
  simp only [List.getD_cons_zero, g_0, g_1, Nat.zero_add, w_len_os]
  refine loop_up l.length (fun k σ h' => σ = [I k] ∧ h' = h.set d (.arr 5 (fnCs ((l.take k).map (reb φ) ++ l.drop k)))) ⟨rfl, by simp; exact (Heap.set_id hd).symm⟩ (fun k σ' h' ⟨e, _⟩ => by rw [e]; rfl) ?_
  rintro k σ' h' K hk ⟨rfl, rfl⟩ hK
  by_cases hlt : k < l.length
  · have hlt' : (k : Int) < l.length := by omega
    obtain ⟨hp1, hp2⟩ := hP _ (List.getElem_mem hlt)
    have hc' : (h.set d (.arr 5 (fnCs ((l.take k).map (reb φ) ++ l.drop k)))) c = some (.arr 2 [[.rs 2 (syCs sy), .os d l.length]]) := by rw [Heap.set_ne hcd]; exact hc
    have hd' := Heap.set_same h d (.arr 5 (fnCs ((l.take k).map (reb φ) ++ l.drop k)))
    have hA : ((l.take k).map (reb φ)).length = k := by simp; omega
    have hdr : l.drop k = l[k] :: l.drop (k + 1) := List.drop_eq_getElem_cons hlt
    have hlen : (fnCs ((l.take k).map (reb φ) ++ l.drop k)).length = l.length := by simp; omega
    have hmid : (fnCs ((l.take k).map (reb φ) ++ l.drop k)).getD k [] = fnC l[k] := by
      rw [hdr]
      have := fnCs_mid ((l.take k).map (reb φ)) (l.drop (k + 1)) l[k]
      rw [hA] at this; exact this
    simp only [g_0, w_lss, hlt', decide_true, w_brA, if_true]
    rw [w_loadV_op hc']
    refine ⟨by simp, by omega, ?_⟩
    simp only [List.getD_cons_zero, g_0, g_1]
    rw [w_loadV_op hc']
    refine ⟨by simp, by omega, ?_⟩
    simp only [List.getD_cons_zero, g_0, g_1]
    rw [w_idx_os hd']
    refine ⟨rfl, by omega, hlt', by rw [hlen]; exact Nat.le_refl _, ?_⟩
    simp only [w_fld_op, Int.toNat_natCast, Nat.zero_add]
    rw [w_loadG_op hd', hmid]
    refine ⟨by rw [hlen]; exact hlt, by omega, ?_⟩
    simp only [fnC, List.drop_succ_cons, List.drop_zero, g_0, g_1, g_2]
    refine callS_of ?_
    rw [tm_eta]
    refine U.changed _ (U.loc _ _ hR fun j hj => Heap.set_ne (fun e => hdC (e ▸ hj))) hp1 hp2 ?_
    refine ⟨?_, ?_⟩
    · rw [w_loadV_op hc']
      exact ⟨by simp, by omega, rfl⟩
    rw [w_idx_os hd']
    refine ⟨rfl, by omega, hlt', by rw [hlen]; exact Nat.le_refl _, ?_⟩
    rw [show tm (mapT φ l[k].body) = .agg [I (mapT φ l[k].body).lab.1, I (mapT φ l[k].body).lab.2, .rs 3 (tmCs (mapT φ l[k].body).kids)] from (tm_eta _).symm]
    simp only [w_fld_op, w_agg, List.length_cons, List.length_nil, true_and, g_0, g_1, g_2, Int.toNat_natCast, Nat.zero_add]
    rw [w_store hd', hmid]
    refine ⟨by rw [hlen]; exact hlt, by simp, ?_⟩
    rw [w_add, wrap_k (k := k) (by omega)]
    refine hK hlt _ _ ⟨rfl, ?_⟩
    rw [Heap.set_set]
    congr 2
    have e1 : splice (fnC l[k]) 2 [I (mapT φ l[k].body).lab.1, I (mapT φ l[k].body).lab.2, .rs 3 (tmCs (mapT φ l[k].body).kids)] = fnC (reb φ l[k]) := rfl
    rw [e1, hdr]
    have := fnCs_set ((l.take k).map (reb φ)) (l.drop (k + 1)) l[k] (reb φ l[k])
    rw [hA] at this
    rw [this, List.take_succ_eq_append_getElem hlt, List.map_append, List.append_assoc]; rfl
  · have hkn : k = l.length := by omega
    subst hkn
    simp
    exact retA_of hq
end Am
/- trim.without: some functions are taken away, the others get new numbers. -/
set_option linter.unusedVariables false
set_option linter.unusedSimpArgs false
namespace Am
open Go Go.Proofs.Try
def renF (to : Int → Int) (t : Tm) : Tm := .mk (t.lab.1, if t.lab.1 = 1 then to t.lab.2 else t.lab.2) t.kids
theorem mapT_ren (to : Int → Int) (t : Tm) : mapT (renF to) t = ren to t := by
  refine Rt.ind (P := fun t => mapT (renF to) t = ren to t) (fun a us ih => ?_) t
  rw [mapT, mapTL_eq, ren, renL_eq, List.map_congr_left ih]; rfl
def callOk (n : Nat) (a : Int × Int) (_ : Nat) : Prop := a.1 = 1 → 0 ≤ a.2 ∧ a.2 < n
theorem allT_calls {n : Nat} (t : Tm) : (∀ k, k ∈ fcs t → 0 ≤ k ∧ k < n) → allT (callOk n) t := by
  refine Rt.ind (P := fun t => (∀ k, k ∈ fcs t → 0 ≤ k ∧ k < n) → allT (callOk n) t) (fun a us ih => ?_) t
  intro h
  refine ⟨fun e => h a.2 (by simp [fcs, e]), ?_⟩
  have : ∀ l : List Tm, (∀ t, t ∈ l → t ∈ us) → allTL (callOk n) l := fun l => by
    induction l with
    | nil => intro _; exact trivial
    | cons t l ihl => exact fun hl => ⟨ih t (hl t (by simp)) fun k hk => h k (by simp only [fcs, List.mem_append]; exact .inr (fcsL_mem.2 ⟨t, hl t (by simp), hk⟩)), ihl fun t ht => hl t (by simp [ht])⟩
  exact this us fun t ht => ht
theorem without_1_turner (c d n : Nat) (nums : List Nat) (hn : nums.length = n) (to : Int → Int) (hto : ∀ k : Nat, k < n → to k = (nums.getD k 0 : Nat)) :
    PTurner 198 [.op c 0 0] [c, d] (fun h => h c = some (.arr 1 [[.os d n]]) ∧ h d = some (.arr 1 (nums.map fun v : Nat => [I (v : Int)]))) (callOk n) (renF to) where
  call a us h Q hR hP hl hq := by
    obtain ⟨hc, hd⟩ := hR
    refine trim_without_1_call ?_
    unfold trim_without_1 tm
    simp [tmC]
    have hq : Q (tm (.mk (a.1, if a.1 = 1 then to a.2 else a.2) us)) h := hq
    by_cases k1 : a.1 = 1
    · obtain ⟨h0, h1⟩ := hP k1
      simp [k1]
      rw [w_loadV_op hc]
      refine ⟨by simp, by omega, ?_⟩
      simp only [List.getD_cons_zero, g_0]
      rw [w_idx_os hd]
      have hlt : a.2.toNat < nums.length := by omega
      refine ⟨rfl, h0, h1, by simp [hn], ?_⟩
      rw [w_loadV_op hd]
      refine ⟨by simpa using hlt, by omega, ?_⟩
      have e : (nums.map fun v : Nat => [I (v : Int)]).getD a.2.toNat [] = [I ((nums.getD a.2.toNat 0 : Nat) : Int)] := by
        simp [List.getD_eq_getElem?_getD, hlt]
      rw [e]
      simp only [g_0, w_one_v]
      have ht := hto a.2.toNat (by omega)
      rw [Int.toNat_of_nonneg h0] at ht
      rw [if_pos k1, ht, k1] at hq
      exact retA_of hq
    · simp [k1]
      rw [if_neg k1] at hq
      exact retA_of hq
  live h hR j hj := by
    simp only [List.mem_cons, List.not_mem_nil, or_false] at hj
    rcases hj with rfl | rfl
    · exact ⟨_, hR.1⟩
    · exact ⟨_, hR.2⟩
  loc h h' hR he := ⟨by rw [he c (by simp)]; exact hR.1, by rw [he d (by simp)]; exact hR.2⟩
def numsL (stay : Nat → Bool) (l : List Fn) (k : Nat) : List Nat := (List.range l.length).map fun j => if j < k then num stay l j else 0
theorem numsL_len (stay : Nat → Bool) (l : List Fn) (k : Nat) : (numsL stay l k).length = l.length := by simp [numsL]
theorem numsL_set (stay : Nat → Bool) {l : List Fn} {k : Nat} (hk : k < l.length) : (numsL stay l k).set k (num stay l k) = numsL stay l (k + 1) := by
  refine List.ext_getElem (by simp [numsL]) fun i h1 h2 => ?_
  have hi : i < l.length := by simpa [numsL] using h2
  rw [List.getElem_set]
  by_cases e : k = i
  · subst e; simp [numsL]
  · rw [if_neg e]
    simp only [numsL, List.getElem_map, List.getElem_range]
    by_cases h : i < k
    · rw [if_pos h, if_pos (by omega)]
    · rw [if_neg h, if_neg (by omega)]
theorem numsL_get (stay : Nat → Bool) {l : List Fn} {j : Nat} (hj : j < l.length) : (numsL stay l l.length).getD j 0 = num stay l j := by
  simp [numsL, List.getD_eq_getElem?_getD, hj]
def nCs (l : List Nat) : List (List AV) := l.map fun v : Nat => [I (v : Int)]
theorem trim_without_c {F : Nat} {caps : List AV} {Cg : List Nat} {sy : List Sy} {l : List Fn} {stay : Nat → Bool} {c : Nat} {h : Heap} {Q : AV → Heap → Prop}
    (hc : h c = some (.arr 2 [[.rs 2 (syCs sy), .rs 5 (fnCs l)]]))
    (hG : ∀ k, k < l.length → ∀ (h' : Heap) (Q : AV → Heap → Prop), (∀ j, j ∈ Cg → h' j = h j) → Q (B (!stay k)) h' → ACalls prog F (I k :: caps) h' Q) (hlive : ∀ j, j ∈ Cg → ∃ n, h j = some n)
    (hcalls : ∀ f, f ∈ l → ∀ k, k ∈ fcs f.body → 0 ≤ k ∧ k < l.length) (hnod : ∀ f, f ∈ l → f.body.nodes ≤ 1000000000) (hl : l.length ≤ 64) (hpos : 0 < l.length) (h0 : stay 0 = true)
    (hq : ∀ h' d, h' c = some (.arr 2 [[.rs 2 (syCs sy), .os d (keepL stay 0 l).length]]) → h' d = some (.arr 5 (fnCs ((keepL stay 0 l).map fun f => ⟨f.name, f.sort, ren (toN stay l) f.body⟩))) → c ≠ d → h d = none →
      (∀ j n, h j = some n → j ≠ c → h' j = some n) → Q (.tup []) h') : ACalls prog n_trim_without [.op c 0 0, .fn F caps] h Q := by
  have hkl : (keepL stay 0 l).length ≤ l.length := (keepL_sub stay l 0).length_le
  have hk0 : 0 < (keepL stay 0 l).length := by have := num_get (l := l) hpos h0; omega
  refine trim_without_call ?_
  unfold trim_without
  simp only [w_nil_op, w_fld_op]
  rw [w_loadV_op hc]
  refine ⟨by simp, by omega, ?_⟩
  simp only [List.getD_cons_zero, g_0, g_1, Nat.zero_add, w_len_rs, fnCs_len]
  refine ⟨rfl, by omega, by omega, fun id1 hid1 => ?_⟩
  intro id2 hid2
  have n12 : id2 ≠ id1 := fun e => by subst e; rw [Heap.set_same] at hid2; cases hid2
  have n1c : id1 ≠ c := fun e => by subst e; rw [hid1] at hc; cases hc
  have hid2' : h id2 = none := by rw [Heap.set_ne n12] at hid2; exact hid2
  have n2c : id2 ≠ c := fun e => by subst e; rw [hid2'] at hc; cases hc
  simp only [w_one_os]
  rw [w_store (Heap.set_same _ id2 _)]
  refine ⟨by simp, by simp, ?_⟩
  have hsp : splice (([[AV.e0]] : List (List AV)).getD 0 []) 0 [AV.os id1 ((l.length : Int)).toNat] = [.os id1 l.length] := rfl
  rw [hsp, Heap.set_set]
  have hset : ([[AV.e0]] : List (List AV)).set 0 [.os id1 l.length] = [[.os id1 l.length]] := rfl
  rw [hset]
  have hrep : (List.replicate ((l.length : Int)).toNat [I 0] : List (List AV)) = nCs (numsL stay l 0) := by
    refine List.ext_getElem (by simp [nCs, numsL]) fun i h1 h2 => ?_
    simp [nCs, numsL]
  rw [hrep]
  have hbase : ∀ N M, (h.set id1 N).set id2 M = (h.set id2 M).set id1 N := fun N M => Heap.set_comm n12.symm N M
  rw [hbase]
  have hcb : ∀ N M, ((h.set id2 M).set id1 N) c = h c := fun N M => by rw [Heap.set_ne n1c.symm, Heap.set_ne n2c.symm]
  rw [w_loadV_op ((hcb _ _).trans hc)]
  refine ⟨by simp, by omega, ?_⟩
  simp only [List.getD_cons_zero, g_0, g_1, w_len_rs, fnCs_len]
  refine loop_up l.length (fun k σ h' => ∃ x, σ = [x, I k] ∧ SlO 5 (fnCs (keepL stay 0 (l.take k))) ((h.set id2 (.arr 1 [[.os id1 l.length]])).set id1 (.arr 1 (nCs (numsL stay l k)))) x h') ⟨.e0, rfl, by simp [keepL, fnCs]; exact SlO.nil 5⟩ (fun k σ' h' ⟨x, e, _⟩ => by rw [e]; rfl) ?_
  rintro k σ' h' K hk ⟨x, rfl, hs⟩ hK
  have hsame : ∀ j, (∃ n, h j = some n) → h' j = h j := fun j hj => by
    obtain ⟨n, hn⟩ := hj
    have a1 : j ≠ id1 := fun e => by subst e; rw [hid1] at hn; cases hn
    have a2 : j ≠ id2 := fun e => by subst e; rw [hid2'] at hn; cases hn
    have e1 : ((h.set id2 (.arr 1 [[.os id1 l.length]])).set id1 (.arr 1 (nCs (numsL stay l k)))) j = h j := by rw [Heap.set_ne a1, Heap.set_ne a2]
    rw [hs.same ⟨n, by rw [e1]; exact hn⟩, e1]
  have h2' : h' id2 = some (.arr 1 [[.os id1 l.length]]) := by
    have e1 : ((h.set id2 (.arr 1 [[.os id1 l.length]])).set id1 (.arr 1 (nCs (numsL stay l k)))) id2 = some (.arr 1 [[.os id1 l.length]]) := by rw [Heap.set_ne n12, Heap.set_same]
    rw [hs.same ⟨_, e1⟩, e1]
  have h1' := hs.cell
  have hcc : h' c = some (.arr 2 [[.rs 2 (syCs sy), .rs 5 (fnCs l)]]) := (hsame c ⟨_, hc⟩).trans hc
  by_cases hlt : k < l.length
  · have hlt' : (k : Int) < l.length := by omega
    simp only [g_0, g_1, w_lss, hlt', decide_true, w_brA, if_true]
    rw [w_loadV_op h2']
    refine ⟨by simp, by omega, ?_⟩
    rw [hs.len]
    simp only [List.getD_cons_zero, g_0, fnCs_len]
    rw [w_idx_os h1']
    refine ⟨rfl, by omega, hlt', by simp [nCs, numsL], ?_⟩
    simp only [w_one_v, Int.toNat_natCast]
    rw [w_store h1']
    refine ⟨by simpa [nCs, numsL] using hlt, by simp, ?_⟩
    have hsp2 : splice ((nCs (numsL stay l k)).getD k []) 0 [I ((keepL stay 0 (l.take k)).length : Int)] = [I ((num stay l k : Nat) : Int)] := by
      have e : (nCs (numsL stay l k)).getD k [] = [I (((numsL stay l k).getD k 0 : Nat) : Int)] := by
        have : k < (numsL stay l k).length := by rw [numsL_len]; exact hlt
        simp [nCs, List.getD_eq_getElem?_getD, this]
      rw [e]; rfl
    have hst : (nCs (numsL stay l k)).set k [I ((num stay l k : Nat) : Int)] = nCs (numsL stay l (k + 1)) := by
      rw [← numsL_set stay hlt]; simp [nCs]
    rw [hsp2, hst]
    have hs2 := hs.base (.arr 1 (nCs (numsL stay l (k + 1))))
    have hs3 : ∀ j, (∃ n, h j = some n) → (h'.set id1 (.arr 1 (nCs (numsL stay l (k + 1))))) j = h j := fun j hj => by
      rw [Heap.set_ne, hsame j hj]
      rintro rfl; obtain ⟨n, hn⟩ := hj; rw [hid1] at hn; cases hn
    simp only [w_callV]
    refine callS_of (hG k hlt _ _ (fun j hj => hs3 j (hlive j hj)) ?_)
    simp only [w_notA, w_brA, Bool.not_not]
    cases hsk : stay k with
    | true =>
      simp only [if_true]
      rw [w_loadV_op ((hs3 c ⟨_, hc⟩).trans hc)]
      refine ⟨by simp, by omega, ?_⟩
      simp only [List.getD_cons_zero, g_0, g_1, w_idx_rs, fnCs_len, Int.toNat_natCast, w_loadG_ro]
      rw [fnCs_get hlt]
      refine ⟨trivial, by omega, hlt', by simp, ?_⟩
      have hkk : (keepL stay 0 (l.take k)).length ≤ k := by have := (keepL_sub stay (l.take k) 0).length_le; rw [List.length_take] at this; omega
      refine hs2.app (by simp; omega) fun x2 h3 hs4 => ?_
      rw [w_add, wrap_k (k := k) (by omega)]
      refine hK hlt _ _ ⟨x2, rfl, ?_⟩
      rw [keepL_snoc stay hlt, hsk, if_pos rfl]
      unfold fnCs
      rw [List.map_append]
      exact hs4
    | false =>
      simp only [Bool.false_eq_true, if_false]
      rw [w_add, wrap_k (k := k) (by omega)]
      refine hK hlt _ _ ⟨x, rfl, ?_⟩
      rw [keepL_snoc stay hlt, hsk]
      simp only [Bool.false_eq_true, if_false, List.append_nil]
      exact hs2
  · have hkn : k = l.length := by omega
    subst hkn
    rw [List.take_length] at hs
    simp only [g_0, g_1, w_lss, Int.lt_irrefl, decide_false, w_brA, Bool.false_eq_true, if_false]
    rw [hs.one]
    rcases hs with ⟨he, _, _⟩ | ⟨hne, d, hd, rfl, rfl⟩
    · have h0 : (fnCs (keepL stay 0 l)).length = 0 := by rw [he]; rfl
      rw [fnCs_len] at h0; omega
    rw [w_store hcc]
    refine ⟨by simp, by simp, ?_⟩
    have nd1 : d ≠ id1 := fun e => by subst e; rw [Heap.set_same] at hd; cases hd
    have nd2 : d ≠ id2 := fun e => by subst e; rw [Heap.set_ne nd1, Heap.set_same] at hd; cases hd
    have hdn : h d = none := by rw [Heap.set_ne nd1, Heap.set_ne nd2] at hd; exact hd
    have ncd : c ≠ d := fun e => by subst e; rw [hdn] at hc; cases hc
    have hsp3 : splice (([[AV.rs 2 (syCs sy), AV.rs 5 (fnCs l)]] : List (List AV)).getD 0 []) 1 [AV.os d (fnCs (keepL stay 0 l)).length] = [.rs 2 (syCs sy), .os d (keepL stay 0 l).length] := by rw [fnCs_len]; rfl
    rw [hsp3]
    have hset3 : ([[AV.rs 2 (syCs sy), AV.rs 5 (fnCs l)]] : List (List AV)).set 0 [.rs 2 (syCs sy), .os d (keepL stay 0 l).length] = [[.rs 2 (syCs sy), .os d (keepL stay 0 l).length]] := rfl
    rw [hset3]
    refine callS_of ?_
    have hsubm : ∀ f, f ∈ keepL stay 0 l → f ∈ l := fun f hf => (keepL_sub stay l 0).subset hf
    refine trim_rewrite_c (without_1_turner id2 id1 l.length (numsL stay l l.length) (numsL_len _ _ _) (toN stay l) (fun k hk => by rw [numsL_get stay hk]; unfold toN; rw [Int.toNat_natCast])) (sy := sy) (l := keepL stay 0 l) (d := d)
      (Heap.set_same _ _ _) (by rw [Heap.set_ne ncd.symm, Heap.set_same]) ncd (by simp [nd1, nd2]) ⟨?_, ?_⟩ (fun f hf => ⟨allT_calls _ (hcalls f (hsubm f hf)), hnod f (hsubm f hf)⟩) (by omega) ?_
    · rw [Heap.set_ne n2c, Heap.set_ne nd2.symm, Heap.set_ne n12, Heap.set_same]
    · rw [Heap.set_ne n1c, Heap.set_ne nd1.symm, Heap.set_same]; rfl
    refine retA_of (hq _ d ?_ ?_ ncd hdn fun j n hj hjc => ?_)
    · rw [Heap.set_ne ncd, Heap.set_same]
    · rw [Heap.set_same]
      congr 3
      refine List.map_congr_left fun f _ => ?_
      unfold reb; rw [mapT_ren]
    · have a1 : j ≠ id1 := fun e => by subst e; rw [hid1] at hj; cases hj
      have a2 : j ≠ id2 := fun e => by subst e; rw [hid2'] at hj; cases hj
      have a3 : j ≠ d := fun e => by subst e; rw [hdn] at hj; cases hj
      rw [Heap.set_ne a3, Heap.set_ne hjc, Heap.set_ne a3, Heap.set_ne a1, Heap.set_ne a2]; exact hj
end Am
/- flow.reached: the functions that are reached. -/
set_option linter.unusedVariables false
set_option linter.unusedSimpArgs false
namespace Am
open Go Go.Proofs.Try
def bCs (l : List Bool) : List (List AV) := l.map fun b => [B b]
@[simp] theorem bCs_len (l : List Bool) : (bCs l).length = l.length := by simp [bCs]
theorem bCs_get {l : List Bool} {k : Nat} (hk : k < l.length) : (bCs l).getD k [] = [B (l.getD k false)] := by simp [bCs, List.getD_eq_getElem?_getD, hk]
theorem bCs_set (l : List Bool) (k : Nat) (b : Bool) : (bCs l).set k [B b] = bCs (l.set k b) := by simp [bCs]
/-- What a visit of calls cs makes of what is met. -/
structure VR (s : Sch) (l : List Bool) (cs : List Int) (l' : List Bool) : Prop where
  len : l'.length = l.length
  mono : ∀ k, l.getD k false = true → l'.getD k false = true
  roots : ∀ k, k ∈ cs → l'.getD k.toNat false = true
  closed : ∀ k, k < s.funs.length → l'.getD k false = true → l.getD k false = false → ∀ m, m ∈ fcs (s.funs.getD k default).body → l'.getD m.toNat false = true
  sound : ∀ P : Nat → Prop, (∀ k, k < s.funs.length → P k → ∀ m, m ∈ fcs (s.funs.getD k default).body → P m.toNat) → (∀ m, m ∈ cs → P m.toNat) → ∀ k, k < s.funs.length → l'.getD k false = true → l.getD k false = true ∨ P k
theorem VR.nil (s : Sch) (l : List Bool) : VR s l [] l := ⟨rfl, fun _ h => h, fun _ h => (by cases h), fun k _ h1 h2 => (by rw [h1] at h2; cases h2), fun _ _ _ k _ h => .inl h⟩
theorem VR.trans {s : Sch} {l l1 l2 : List Bool} {a b : List Int} (A : VR s l a l1) (C : VR s l1 b l2) : VR s l (a ++ b) l2 where
  len := C.len.trans A.len
  mono k h := C.mono k (A.mono k h)
  roots k hk := by
    rcases List.mem_append.1 hk with h | h
    · exact C.mono _ (A.roots k h)
    · exact C.roots k h
  closed k hk h1 h2 m hm := by
    cases h3 : l1.getD k false with
    | true => exact C.mono _ (A.closed k hk h3 h2 m hm)
    | false => exact C.closed k hk h1 h3 m hm
  sound P hP hr k hk h := by
    rcases C.sound P hP (fun m hm => hr m (by simp [hm])) k hk h with h | h
    · exact A.sound P hP (fun m hm => hr m (by simp [hm])) k hk h
    · exact .inr h
def cntF (l : List Bool) : Nat := (l.filter fun b => !b).length
theorem cntF_set {l : List Bool} : ∀ {k : Nat}, k < l.length → l.getD k false = false → cntF (l.set k true) + 1 = cntF l := by
  induction l with
  | nil => intro k hk; simp at hk
  | cons b l ih =>
    intro k hk h
    cases k with
    | zero => have : b = false := by simpa using h
              subst this; simp [cntF]
    | succ k =>
      have := ih (k := k) (by simpa using hk) (by simpa using h)
      unfold cntF at this ⊢
      cases b <;> simp <;> omega
theorem cntF_mono : ∀ {l l' : List Bool}, l'.length = l.length → (∀ k, l.getD k false = true → l'.getD k false = true) → cntF l' ≤ cntF l
  | [], l', h, _ => by have : l' = [] := List.eq_nil_of_length_eq_zero h; subst this; exact Nat.le_refl _
  | b :: l, [], h, _ => by simp at h
  | b :: l, b' :: l', h, hm => by
    have h1 := cntF_mono (l := l) (l' := l') (by simpa using h) fun k hk => by have := hm (k + 1) (by simpa using hk); simpa using this
    have h2 := hm 0
    simp only [List.getD_cons_zero] at h2
    unfold cntF at h1 ⊢
    cases b <;> cases b' <;> simp at h2 ⊢ <;> omega
theorem getD_set_b {l : List Bool} {k j : Nat} (hk : k < l.length) : (l.set k true).getD j false = if j = k then true else l.getD j false := by
  rw [List.getD_eq_getElem?_getD, List.getD_eq_getElem?_getD, List.getElem?_set]
  by_cases e : k = j
  · subst e; simp [hk]
  · have : ¬ j = k := fun h => e h.symm
    simp [e, this]
theorem VR.mark {s : Sch} {l l1 : List Bool} {k : Nat} (hk : k < l.length) (hln : l.length = s.funs.length) (h0 : l.getD k false = false) (A : VR s (l.set k true) (fcs (s.funs.getD k default).body) l1) : VR s l [(k : Int)] l1 where
  len := A.len.trans (by simp)
  mono j h := A.mono j (by
    rw [getD_set_b hk]
    split
    · rfl
    · exact h)
  roots m hm := by
    have : m = k := by simpa using hm
    subst this
    rw [Int.toNat_natCast]
    exact A.mono k (by rw [getD_set_b hk, if_pos rfl])
  closed j hj h1 h2 m hm := by
    by_cases e : j = k
    · subst e; exact A.roots m hm
    · exact A.closed j hj h1 (by rw [getD_set_b hk, if_neg e]; exact h2) m hm
  sound P hP hr j hj h := by
    have hPk : P k := by have := hr k (by simp); rwa [Int.toNat_natCast] at this
    rcases A.sound P hP (fun m hm => hP k (by omega) hPk m hm) j hj h with h | h
    · rw [getD_set_b hk] at h
      by_cases e : j = k
      · subst e; exact .inr hPk
      · rw [if_neg e] at h; exact .inl h
    · exact .inr h
theorem VR.met {s : Sch} {l : List Bool} {k : Nat} (h0 : l.getD k false = true) : VR s l [(k : Int)] l :=
  ⟨rfl, fun _ h => h, fun m hm => by have : m = k := by simpa using hm
                                     subst this; rw [Int.toNat_natCast]; exact h0, fun k _ h1 h2 => (by rw [h1] at h2; cases h2), fun _ _ _ k _ h => .inl h⟩
structure Vs (s : Sch) (c1 c2 c3 d : Nat) (l : List Bool) (h : Heap) : Prop where
  out : h c1 = some (.arr 1 [[.os d s.funs.length]])
  bits : h d = some (.arr 1 (bCs l))
  self : h c2 = some (.arr 1 [[.fn 189 [.op c1 0 0, .op c2 0 0, .op c3 0 0]]])
  sch : h c3 = some (.arr 2 [[.rs 2 (syCs s.syms), .rs 5 (fnCs s.funs)]])
  len : l.length = s.funs.length
  n1 : c1 ≠ d
  n2 : c2 ≠ d
  n3 : c3 ≠ d
theorem Vs.set {s : Sch} {c1 c2 c3 d : Nat} {l : List Bool} {h : Heap} (V : Vs s c1 c2 c3 d l h) {l' : List Bool} (hl : l'.length = l.length) : Vs s c1 c2 c3 d l' (h.set d (.arr 1 (bCs l'))) :=
  ⟨by rw [Heap.set_ne V.n1]; exact V.out, Heap.set_same _ _ _, by rw [Heap.set_ne V.n2]; exact V.self, by rw [Heap.set_ne V.n3]; exact V.sch, hl.trans V.len, V.n1, V.n2, V.n3⟩
def VisitC (s : Sch) (c1 c2 c3 d : Nat) (t : Tm) (N : Nat) : Prop := ∀ (l : List Bool) (h : Heap) (Q : AV → Heap → Prop), Vs s c1 c2 c3 d l h → cntF l ≤ N → (∀ k, k ∈ fcs t → 0 ≤ k ∧ k < s.funs.length) → t.nodes ≤ 1000000000 →
  (∀ l', VR s l (fcs t) l' → Q (.tup []) (h.set d (.arr 1 (bCs l')))) → ACalls prog n_flow_reached_1 [tm t, .op c1 0 0, .op c2 0 0, .op c3 0 0] h Q
theorem fcsL_snoc {us : List Tm} {k : Nat} (hk : k < us.length) : fcsL (us.take (k + 1)) = fcsL (us.take k) ++ fcs us[k] := by
  have : ∀ (l : List Tm) (t : Tm), fcsL (l ++ [t]) = fcsL l ++ fcs t := fun l t => by
    induction l with
    | nil => simp [fcsL]
    | cons u l ih => simp [fcsL, ih]
  rw [List.take_succ_eq_append_getElem hk, this]
theorem visit_loop {s : Sch} {c1 c2 c3 d N : Nat} {us : List Tm} (hv : ∀ t, t ∈ us → VisitC s c1 c2 c3 d t N) (hc : ∀ k, k ∈ fcsL us → 0 ≤ k ∧ k < s.funs.length) (hm : Rt.nodesL us ≤ 1000000000)
    {l : List Bool} {h : Heap} {Q : AV → Heap → Prop} (V : Vs s c1 c2 c3 d l h) (hn : cntF l ≤ N) (hq : ∀ l', VR s l (fcsL us) l' → Q (.tup []) (h.set d (.arr 1 (bCs l')))) :
    loopS (fun s_19 h_20 K_21 =>
      binA .lss (g s_19 0) (I us.length) fun x_22 =>
      brA x_22 (idxA 3 (.rs 3 (tmCs us)) (g s_19 0) h_20 fun p_23 =>
      loadG 3 p_23 h_20 fun c_24 =>
      loadV (.op c2 0 0) h_20 fun x_25 =>
      callV prog x_25 [(.agg [(g c_24 0), (g c_24 1), (g c_24 2)])] h_20 fun r_26 h_27 =>
      binA .add (g s_19 0) (I 1) fun x_28 =>
      K_21 [x_28] h_27) (retA (.tup []) h_20 Q)) [(I 0)] h := by
  have hlen := Rt.length_le us
  refine loop_up us.length (fun k σ h' => ∃ l', σ = [I k] ∧ h' = h.set d (.arr 1 (bCs l')) ∧ VR s l (fcsL (us.take k)) l') ⟨l, rfl, by rw [Heap.set_id V.bits], by simpa [fcsL] using VR.nil s l⟩ (fun k σ' h' ⟨_, e, _⟩ => by rw [e]; rfl) ?_
  rintro k σ' h' K hk ⟨l', rfl, rfl, hvr⟩ hK
  have V' := V.set hvr.len
  by_cases hlt : k < us.length
  · have hlt' : (k : Int) < us.length := by omega
    have hkn := kid_nodes hlt
    simp [hlt', hlt]
    rw [w_loadV_op V'.self]
    refine ⟨by simp, by omega, ?_⟩
    simp only [List.getD_cons_zero, g_0, w_callV, List.cons_append, List.nil_append]
    refine callS_of ?_
    rw [tm_eta]
    refine hv us[k] (List.getElem_mem hlt) l' _ _ V' (Nat.le_trans (cntF_mono hvr.len hvr.mono) hn) (fun m hm => hc m (fcsL_mem.2 ⟨_, List.getElem_mem hlt, hm⟩)) (by omega) fun l2 hvr2 => ?_
    simp only [w_add, Heap.set_set]
    rw [wrap_k (k := k) (by omega)]
    exact hK hlt _ _ ⟨l2, rfl, rfl, by rw [fcsL_snoc hlt]; exact hvr.trans hvr2⟩
  · have hkn : k = us.length := by omega
    subst hkn
    rw [List.take_length] at hvr
    simp
    exact retA_of (hq l' hvr)
theorem flow_visit_c (s : Sch) (c1 c2 c3 d : Nat) (hcalls : ∀ f, f ∈ s.funs → (∀ k, k ∈ fcs f.body → 0 ≤ k ∧ k < s.funs.length) ∧ f.body.nodes ≤ 1000000000) (N : Nat) : ∀ t, VisitC s c1 c2 c3 d t N := by
  induction N using Nat.strongRecOn with
  | ind N IH =>
  intro t
  refine Rt.ind (P := fun t => VisitC s c1 c2 c3 d t N) (fun a us ih => ?_) t
  intro l h Q V hn hc hm hq
  simp only [Rt.nodes] at hm
  have hcL : ∀ k, k ∈ fcsL us → 0 ≤ k ∧ k < s.funs.length := fun k hk => hc k (by simp only [fcs, List.mem_append]; exact .inr hk)
  refine flow_reached_1_call ?_
  unfold flow_reached_1 tm
  simp [tmC]
  by_cases k1 : a.1 = 1
  · obtain ⟨b0, b1⟩ := hc a.2 (by simp [fcs, k1])
    have hlt : a.2.toNat < l.length := by rw [V.len]; omega
    simp [k1]
    rw [w_loadV_op V.out]
    refine ⟨by simp, by omega, ?_⟩
    simp only [List.getD_cons_zero, g_0]
    rw [w_idx_os V.bits]
    refine ⟨rfl, b0, b1, by simp [V.len], ?_⟩
    rw [w_loadV_op V.bits, bCs_get hlt]
    refine ⟨by simpa using hlt, by omega, ?_⟩
    have e1 : fcs (.mk a us) = [((a.2.toNat : Nat) : Int)] ++ fcsL us := by rw [fcs, if_pos k1, Int.toNat_of_nonneg b0]
    cases hb : l.getD a.2.toNat false with
    | true =>
      simp
      exact visit_loop (fun t ht => ih t ht) hcL (by omega) V hn fun l' hvr => hq l' (by rw [e1]; exact (VR.met hb).trans hvr)
    | false =>
      simp
      rw [w_loadV_op V.out]
      refine ⟨by simp, by omega, ?_⟩
      simp only [List.getD_cons_zero, g_0]
      rw [w_idx_os V.bits]
      refine ⟨rfl, b0, b1, by simp [V.len], ?_⟩
      rw [w_store V.bits, bCs_get hlt]
      refine ⟨by simpa using hlt, by simp, ?_⟩
      have hsp : splice [B (l.getD a.2.toNat false)] 0 [AV.val (.bool true)] = [B true] := rfl
      rw [hsp, bCs_set]
      have hcs := cntF_set hlt hb
      have V1 := V.set (l' := l.set a.2.toNat true) (by simp)
      rw [w_loadV_op V1.self]
      refine ⟨by simp, by omega, ?_⟩
      simp only [List.getD_cons_zero, g_0]
      rw [w_loadV_op V1.sch]
      refine ⟨by simp, by omega, ?_⟩
      have hlf : a.2.toNat < s.funs.length := by rw [← V.len]; exact hlt
      have eb : (fnCs s.funs).getD a.2.toNat [] = fnC s.funs[a.2.toNat] := fnCs_get hlf
      simp only [List.getD_cons_zero, g_0, g_1, w_idx_rs, fnCs_len, eb]
      refine ⟨trivial, b0, b1, ?_⟩
      simp only [fnC, w_fld_ro, w_loadG_ro, List.drop_succ_cons, List.drop_zero, g_0, g_1, g_2, w_callV, List.cons_append, List.nil_append]
      refine ⟨by simp, callS_of ?_⟩
      rw [tm_eta]
      obtain ⟨q1, q2⟩ := hcalls _ (List.getElem_mem hlf)
      refine IH (N - 1) (by omega) _ _ _ _ V1 (by omega) q1 q2 fun l1 hvr1 => ?_
      have eg : s.funs.getD a.2.toNat default = s.funs[a.2.toNat] := by simp [List.getD_eq_getElem?_getD, hlf]
      have hvm := VR.mark (s := s) hlt V.len hb (by rw [eg]; exact hvr1)
      rw [Heap.set_set]
      have V2 := V.set (l' := l1) hvm.len
      have hc1 := cntF_mono hvr1.len hvr1.mono
      refine visit_loop (N := N - 1) (fun t ht => IH (N - 1) (by omega) t) hcL (by omega) V2 (by omega) fun l' hvr => ?_
      rw [Heap.set_set]
      exact hq l' (by rw [e1]; exact hvm.trans hvr)
  · simp [k1]
    have e1 : fcs (.mk a us) = fcsL us := by rw [fcs, if_neg k1, List.nil_append]
    exact visit_loop (fun t ht => ih t ht) hcL (by omega) V hn fun l' hvr => hq l' (by rw [e1]; exact hvr)
theorem SOk.callsOk {s : Sch} (H : SOk s) : ∀ f, f ∈ s.funs → (∀ k, k ∈ fcs f.body → 0 ≤ k ∧ k < s.funs.length) ∧ f.body.nodes ≤ 1000000000 := fun f hf => ⟨fun k hk => H.calls hf hk, by have := H.body hf; omega⟩
/-- What is met from the start on is what is reached. -/
theorem VR.isR {s : Sch} (H : SOk s) {l : List Bool} (A : VR s ((List.replicate s.funs.length false).set 0 true) (fcs (s.funs.getD 0 default).body) l) : IsR s l := by
  have hpos := H.pos
  have hrep : ∀ k, (List.replicate s.funs.length false).getD k false = false := fun k => by
    rw [List.getD_eq_getElem?_getD, List.getElem?_replicate]; split <;> rfl
  have A := VR.mark (l := List.replicate s.funs.length false) (k := 0) (by simp; omega) (by simp) (hrep 0) A
  have hlen : l.length = s.funs.length := A.len.trans (by simp)
  refine ⟨hlen, fun k hk => ⟨fun h => ?_, fun h => ?_⟩⟩
  · have p1 : ∀ k, k < s.funs.length → Rch s k → ∀ m, m ∈ fcs (s.funs.getD k default).body → Rch s m.toNat := fun k hk hr m hm => by
      have hf : s.funs.getD k default ∈ s.funs := by
        rw [List.getD_eq_getElem?_getD, List.getElem?_eq_getElem hk]; exact List.getElem_mem hk
      have := (H.calls hf hm).1
      exact .step hr hk (by rw [Int.toNat_of_nonneg this]; exact hm)
    have p2 : ∀ m, m ∈ [((0 : Nat) : Int)] → Rch s m.toNat := fun m hm => by
      have : m = ((0 : Nat) : Int) := by simpa using hm
      subst this; exact .zero
    rcases A.sound (Rch s) p1 p2 k hk h with h | h
    · rw [hrep] at h; cases h
    · exact h
  · clear hk
    induction h with
    | zero => exact A.roots ((0 : Nat) : Int) (by simp)
    | @step f k hf hfl hc ih =>
      have := A.closed f hfl ih (hrep f) _ hc
      rwa [Int.toNat_natCast] at this
theorem flow_reached_c (s : Sch) (H : SOk s) {h : Heap} {Q : AV → Heap → Prop} (hq : ∀ l, IsR s l → Q (.rs 1 (bCs l)) h) : ACalls prog n_flow_reached [sm s] h Q := by
  have hpos := H.pos
  have hfw := H.few
  refine flow_reached_call ?_
  unfold flow_reached sm
  simp only [w_agg, List.length_cons, List.length_nil, true_and, g_0, g_1]
  intro i3 hi3
  simp only [w_fld_op]
  rw [w_loadV_op (Heap.set_same _ i3 _)]
  refine ⟨by simp, by omega, ?_⟩
  simp only [List.getD_cons_zero, g_0, Nat.zero_add, g_1, w_len_rs]
  simp only [fnCs_len]
  refine ⟨rfl, by omega, by omega, fun d hd => ?_⟩
  intro i1 hi1
  simp only [w_one_os]
  rw [w_store (Heap.set_same _ i1 _)]
  refine ⟨by simp, by simp, ?_⟩
  rw [Heap.set_set]
  intro i2 hi2
  simp only [w_one_fn]
  rw [w_store (Heap.set_same _ i2 _)]
  refine ⟨by simp, by simp, ?_⟩
  rw [Heap.set_set]
  have n3d : i3 ≠ d := fun e => by subst e; rw [Heap.set_same] at hd; cases hd
  have n1d : i1 ≠ d := fun e => by subst e; rw [Heap.set_same] at hi1; cases hi1
  have n13 : i1 ≠ i3 := fun e => by subst e; rw [Heap.set_ne n1d, Heap.set_same] at hi1; cases hi1
  have n21 : i2 ≠ i1 := fun e => by subst e; rw [Heap.set_same] at hi2; cases hi2
  have n2d : i2 ≠ d := fun e => by subst e; rw [Heap.set_ne n21, Heap.set_same] at hi2; cases hi2
  have n23 : i2 ≠ i3 := fun e => by subst e; rw [Heap.set_ne n21, Heap.set_ne n2d, Heap.set_same] at hi2; cases hi2
  have f3 : h i3 = none := hi3
  have fd : h d = none := by rw [Heap.set_ne n3d.symm] at hd; exact hd
  have f1 : h i1 = none := by rw [Heap.set_ne n1d, Heap.set_ne n13] at hi1; exact hi1
  have f2 : h i2 = none := by rw [Heap.set_ne n21, Heap.set_ne n2d, Heap.set_ne n23] at hi2; exact hi2
  have hnn : ((s.funs.length : Int)).toNat = s.funs.length := by simp
  rw [hnn]
  have hrep : (List.replicate s.funs.length [B false] : List (List AV)) = bCs (List.replicate s.funs.length false) := by simp [bCs]
  rw [hrep]
  have hs1 : ([[AV.e0]] : List (List AV)).set 0 (splice (([[AV.e0]] : List (List AV)).getD 0 []) 0 [AV.os d s.funs.length]) = [[.os d s.funs.length]] := rfl
  have hs2 : ([[AV.val .nilFunc]] : List (List AV)).set 0 (splice (([[AV.val .nilFunc]] : List (List AV)).getD 0 []) 0 [AV.fn 189 [.op i1 0 0, .op i2 0 0, .op i3 0 0]]) = [[.fn 189 [.op i1 0 0, .op i2 0 0, .op i3 0 0]]] := rfl
  rw [hs1, hs2]
  generalize hH : (((h.set i3 (.arr 2 [[.rs 2 (syCs s.syms), .rs 5 (fnCs s.funs)]])).set d (.arr 1 (bCs (List.replicate s.funs.length false)))).set i1 (.arr 1 [[.os d s.funs.length]])).set i2 (.arr 1 [[.fn 189 [.op i1 0 0, .op i2 0 0, .op i3 0 0]]]) = h0
  have V : Vs s i1 i2 i3 d (List.replicate s.funs.length false) h0 := by
    subst hH
    refine ⟨?_, ?_, Heap.set_same _ _ _, ?_, by simp, n1d, n2d, n3d⟩
    · rw [Heap.set_ne n21.symm, Heap.set_same]
    · rw [Heap.set_ne n2d.symm, Heap.set_ne n1d.symm, Heap.set_same]
    · rw [Heap.set_ne n23.symm, Heap.set_ne n13.symm, Heap.set_ne n3d, Heap.set_same]
  have hfr : ∀ j n, h j = some n → h0 j = some n := fun j n hj => by
    subst hH
    have a1 : j ≠ i1 := fun e => by subst e; rw [f1] at hj; cases hj
    have a2 : j ≠ i2 := fun e => by subst e; rw [f2] at hj; cases hj
    have a3 : j ≠ i3 := fun e => by subst e; rw [f3] at hj; cases hj
    have a4 : j ≠ d := fun e => by subst e; rw [fd] at hj; cases hj
    rw [Heap.set_ne a2, Heap.set_ne a1, Heap.set_ne a4, Heap.set_ne a3]; exact hj
  have hlt : 0 < (List.replicate s.funs.length false).length := by simp; omega
  rw [w_loadV_op V.out]
  refine ⟨by simp, by omega, ?_⟩
  simp only [List.getD_cons_zero, g_0]
  rw [w_idx_os V.bits]
  refine ⟨rfl, by omega, by omega, by simp, ?_⟩
  have ez : ((0 : Int)).toNat = 0 := rfl
  rw [ez, w_store V.bits, bCs_get hlt]
  refine ⟨by simp; omega, by simp, ?_⟩
  have hsp : ∀ b, splice [B b] 0 [AV.val (.bool true)] = [B true] := fun b => rfl
  rw [hsp, bCs_set]
  have V1 := V.set (l' := (List.replicate s.funs.length false).set 0 true) (by simp)
  rw [w_loadV_op V1.self]
  refine ⟨by simp, by omega, ?_⟩
  simp only [List.getD_cons_zero, g_0]
  rw [w_loadV_op V1.sch]
  refine ⟨by simp, by omega, ?_⟩
  have hp0 : 0 < s.funs.length := by omega
  have eb : (fnCs s.funs).getD (0 : Int).toNat [] = fnC s.funs[0] := fnCs_get hp0
  simp only [List.getD_cons_zero, g_0, g_1, w_idx_rs, fnCs_len, eb]
  refine ⟨trivial, by omega, by omega, ?_⟩
  simp only [fnC, w_fld_ro, w_loadG_ro, List.drop_succ_cons, List.drop_zero, g_0, g_1, g_2, w_callV, List.cons_append, List.nil_append]
  refine ⟨by simp, callS_of ?_⟩
  rw [tm_eta]
  obtain ⟨q1, q2⟩ := H.callsOk _ (List.getElem_mem hp0)
  refine flow_visit_c s i1 i2 i3 d H.callsOk _ _ _ _ _ V1 (Nat.le_refl _) q1 q2 fun l1 hvr1 => ?_
  have eg : s.funs.getD 0 default = s.funs[0] := by simp [List.getD_eq_getElem?_getD, hp0]
  have V2 := V1.set (l' := l1) hvr1.len
  rw [w_loadV_op V2.out]
  refine ⟨by simp, by omega, ?_⟩
  simp only [List.getD_cons_zero, g_0]
  have hir : IsR s l1 := VR.isR H (by rw [eg]; exact hvr1)
  have hl1 : l1.length = s.funs.length := hir.1
  refine retA_wk (.frz (els := bCs l1) V2.bits fd (by simp [hl1]) (by simp [hl1]) (fun i hi => ?_) fun i j _ _ => .refl) (HRef.sub fun j n hj => ?_) (hq l1 hir)
  · rw [bCs_get (by omega)]; rfl
  · have a4 : j ≠ d := fun e => by subst e; rw [fd] at hj; cases hj
    rw [Heap.set_ne a4, Heap.set_ne a4]; exact hfr j n hj
theorem flow_Reached_c (s : Sch) (H : SOk s) {h : Heap} {Q : AV → Heap → Prop} (hq : ∀ l, IsR s l → Q (.tup [.rs 1 (bCs l), I 0]) h) : ACalls prog n_flow_Reached [sm s] h Q := by
  refine flow_Reached_call ?_
  unfold flow_Reached sm
  simp
  refine callS_of ?_
  rw [sm_eta]
  refine scheme_Check_c s ?_
  rw [(schB_iff s).2 H]
  simp
  refine callS_of (flow_reached_c s H fun l hl => ?_)
  exact retA_of (hq l hl)
end Am
/- trim.reach, apply, Reach. -/
set_option linter.unusedVariables false
set_option linter.unusedSimpArgs false
namespace Am
open Go Go.Proofs.Try
/-- Cell c holds a scheme whose functions lie in a block of their own; what lay in hb lies there still. -/
def ScO (hb h : Heap) (c : Nat) (s : Sch) : Prop := ∃ d, h c = some (.arr 2 [[.rs 2 (syCs s.syms), .os d s.funs.length]]) ∧ h d = some (.arr 5 (fnCs s.funs)) ∧ c ≠ d ∧ hb c = none ∧ hb d = none ∧ ∀ j n, hb j = some n → h j = some n
/-- .. frozen. -/
def ScF (hb h : Heap) (c : Nat) (s : Sch) : Prop := h c = some (.arr 2 [[.rs 2 (syCs s.syms), .rs 5 (fnCs s.funs)]]) ∧ hb c = none ∧ ∀ j n, hb j = some n → h j = some n
theorem frz_refs {h hf : Heap} {d : Nat} {s : Sch} (hd : h d = some (.arr 5 (fnCs s.funs))) (hn : hf d = none) : Refs h hf [.rs 2 (syCs s.syms), .os d s.funs.length] [.rs 2 (syCs s.syms), .rs 5 (fnCs s.funs)] :=
  .cons .refl (.cons (.frz hd hn (by simp) (by simp) (fun i hi => fnCs_sz _ i (by simpa using hi)) fun i j _ _ => .refl) .nil)
theorem frz_sch {hb h : Heap} {c d : Nat} {s : Sch} (hc : h c = some (.arr 2 [[.rs 2 (syCs s.syms), .os d s.funs.length]])) (hd : h d = some (.arr 5 (fnCs s.funs))) (hcd : c ≠ d) (bc : hb c = none) (bd : hb d = none) (hfr : ∀ j n, hb j = some n → h j = some n) :
    ∃ hf, HRef h hf ∧ hf d = none ∧ ScF hb hf c s ∧ (∀ j, j ≠ c → j ≠ d → hf j = h j) := by
  refine ⟨(h.set c (.arr 2 [[.rs 2 (syCs s.syms), .rs 5 (fnCs s.funs)]])).del d, fun j n hj => ?_, Heap.del_same _ _, ⟨?_, bc, fun j n hj => ?_⟩, fun j h1 h2 => ?_⟩
  · by_cases e : j = d
    · subst e; rw [Heap.del_same] at hj; cases hj
    · rw [Heap.del_ne e] at hj
      by_cases e2 : j = c
      · subst e2
        rw [Heap.set_same] at hj
        cases hj
        refine ⟨_, hc, .arr rfl (fun i hi => ?_) fun i k hi hk => ?_⟩
        · have : i = 0 := by simp at hi; omega
          subst this; rfl
        · have : i = 0 := by simp at hi; omega
          subst this
          exact (frz_refs hd (Heap.del_same _ _)).get k
      · rw [Heap.set_ne e2] at hj
        exact ⟨n, hj, .refl⟩
  · rw [Heap.del_ne hcd, Heap.set_same]
  · have a1 : j ≠ d := fun e => by subst e; rw [bd] at hj; cases hj
    have a2 : j ≠ c := fun e => by subst e; rw [bc] at hj; cases hj
    rw [Heap.del_ne a1, Heap.set_ne a2]; exact hfr j n hj
  · rw [Heap.del_ne h2, Heap.set_ne h1]
theorem trim_reach_1_c {l : List Bool} {id k n : Nat} (hk : k < n) (hl : l.length = n) {h : Heap} {Q : AV → Heap → Prop} (hi : h id = some (.arr 1 [[.rs 1 (bCs l)]])) (hq : Q (B (!l.getD k false)) h) : ACalls prog 161 (I k :: [.op id 0 0]) h Q := by
  refine trim_reach_1_call ?_
  unfold trim_reach_1
  rw [w_loadV_op hi]
  refine ⟨by simp, by omega, ?_⟩
  have hkl : k < (bCs l).length := by simp [hl, hk]
  have e : (bCs l).getD ((k : Int)).toNat [] = [B (l.getD k false)] := bCs_get (by omega)
  simp only [List.getD_cons_zero, g_0, w_idx_rs, e, w_loadV_ro, w_notA]
  exact ⟨trivial, by omega, by simp; omega, retA_of hq⟩
theorem trim_reach_c (s : Sch) (H : SOk s) {hb h : Heap} {c : Nat} (hs : ScO hb h c s) {Q : AV → Heap → Prop} (hq : ∀ l, IsR s l → ∀ h', ScO hb h' c (reachS s l) → Q (B (decide ((reachS s l).funs.length < s.funs.length))) h') : ACalls prog n_trim_reach [.op c 0 0] h Q := by
  obtain ⟨d, hc, hd, hcd, bc, bd, hfr⟩ := hs
  have hpos := H.pos
  have hfw := H.few
  refine trim_reach_call ?_
  unfold trim_reach
  simp only [w_nil_op]
  rw [w_loadG_op hc]
  refine ⟨by simp, by omega, ?_⟩
  simp only [List.getD_cons_zero, List.drop_zero, g_0, g_1]
  obtain ⟨hf, r1, r2, ⟨r3, r4, r5⟩, r6⟩ := frz_sch hc hd hcd bc bd hfr
  refine callS_wk (args' := [sm s]) (.cons (Ref.aggs (frz_refs hd r2)) .nil) r1 (flow_Reached_c s H fun l hl => ?_)
  simp only [w_tup, List.length_cons, List.length_nil, List.getD_cons_zero, List.getD_cons_succ]
  refine ⟨by omega, by omega, ?_⟩
  intro id hid
  have nid : id ≠ c := fun e => by subst e; rw [hid] at r3; cases r3
  simp only [w_one_rs]
  rw [w_store (Heap.set_same _ id _)]
  refine ⟨by simp, by simp, ?_⟩
  rw [Heap.set_set]
  have hset : ([[AV.e0]] : List (List AV)).set 0 (splice (([[AV.e0]] : List (List AV)).getD 0 []) 0 [AV.rs 1 (bCs l)]) = [[.rs 1 (bCs l)]] := rfl
  rw [hset]
  simp only [w_fld_op]
  have hc8 : (hf.set id (.arr 1 [[.rs 1 (bCs l)]])) c = some (.arr 2 [[.rs 2 (syCs s.syms), .rs 5 (fnCs s.funs)]]) := by rw [Heap.set_ne nid.symm]; exact r3
  rw [w_loadV_op hc8]
  refine ⟨by simp, by omega, ?_⟩
  simp only [List.getD_cons_zero, Nat.zero_add, g_0, g_1, w_len_rs]
  simp only [fnCs_len]
  have hst0 : l.getD 0 false = true := (hl.2 0 (by omega)).2 .zero
  refine callS_of (trim_without_c (Cg := [id]) (stay := fun i => l.getD i false) hc8 (fun k hk h' Q hsame hQ => ?_) (fun j hj => ?_) (fun f hf => (H.callsOk f hf).1) (fun f hf => (H.callsOk f hf).2) hfw (by omega) hst0 fun h' d' e1 e2 e3 e4 e5 => ?_)
  · refine trim_reach_1_c hk hl.1 ?_ hQ
    rw [hsame id (by simp), Heap.set_same]
  · have : j = id := by simpa using hj
    subst this; exact ⟨_, Heap.set_same _ _ _⟩
  rw [w_loadV_op e1]
  refine ⟨by simp, by omega, ?_⟩
  simp only [List.getD_cons_zero, g_0, g_1, w_len_os, w_lss]
  have hlen : (reachS s l).funs.length = (keepL (fun i => l.getD i false) 0 s.funs).length := keepS_len _ _ _
  have hb' : ∀ j n, hb j = some n → (hf.set id (.arr 1 [[.rs 1 (bCs l)]])) j = some n := fun j n hj => by
    have := r5 j n hj
    rw [Heap.set_ne]; exact this
    rintro rfl; rw [hid] at this; cases this
  have hdec : decide ((((keepL (fun i => l.getD i false) 0 s.funs).length : Nat) : Int) < (s.funs.length : Int)) = decide ((reachS s l).funs.length < s.funs.length) := by rw [decide_eq_decide, hlen]; omega
  rw [hdec]
  refine retA_of (hq l hl h' ⟨d', ?_, e2, e3, r4, ?_, fun j n hj => e5 j n (hb' j n hj) fun e => by subst e; rw [r4] at hj; cases hj⟩)
  · rw [hlen]; exact e1
  · cases hbd : hb d' with
    | none => rfl
    | some n => have := hb' d' n hbd; rw [e4] at this; cases this
end Am
/- trim.apply: a transformation again and again. -/
set_option linter.unusedVariables false
set_option linter.unusedSimpArgs false
namespace Am
open Go Go.Proofs.Try
structure Op (F : Nat) (Step : Sch → Bool → Sch → Prop) (meas : Sch → Nat) : Prop where
  call : ∀ s, SOk s → ∀ (hb h : Heap) (c : Nat) (Q : AV → Heap → Prop), ScO hb h c s → (∀ b s', Step s b s' → ∀ h', ScO hb h' c s' → Q (B b) h') → ACalls prog F [.op c 0 0] h Q
  ok : ∀ s b s', SOk s → Step s b s' → SOk s'
  less : ∀ s s', SOk s → Step s true s' → meas s' < meas s
inductive Iter (Step : Sch → Bool → Sch → Prop) : Sch → Sch → Prop
  | done {s s'} (h : Step s false s') : Iter Step s s'
  | more {s s1 s'} (h : Step s true s1) (hi : Iter Step s1 s') : Iter Step s s'
theorem Iter.ok {F : Nat} {Step : Sch → Bool → Sch → Prop} {meas : Sch → Nat} (O : Op F Step meas) {s s' : Sch} (hi : Iter Step s s') : SOk s → SOk s' := by
  induction hi with
  | done h => exact fun H => O.ok _ _ _ H h
  | more h _ ih => exact fun H => ih (O.ok _ _ _ H h)
theorem trim_apply_c {F : Nat} {Step : Sch → Bool → Sch → Prop} {meas : Sch → Nat} (O : Op F Step meas) (s : Sch) {h : Heap} {Q : AV → Heap → Prop} (hv : SOk s → ∀ s', Iter Step s s' → Q (.tup [sm s', I 0]) h) (hn : ¬ SOk s → Q (.tup [sm ⟨[], []⟩, I 7]) h) :
    ACalls prog n_trim_apply [sm s, .fn F []] h Q := by
  refine trim_apply_call ?_
  unfold trim_apply sm
  simp only [w_agg, List.length_cons, List.length_nil, true_and, g_0, g_1]
  refine callS_of ?_
  rw [sm_eta]
  refine scheme_Check_c s ?_
  by_cases H : SOk s
  · rw [(schB_iff s).2 H]
    simp
    refine callS_of (trim_copied_c s H fun d hd => ?_)
    simp only [w_agg, List.length_cons, List.length_nil, true_and, g_0, g_1]
    intro c hcn
    have hcd : c ≠ d := fun e => by subst e; rw [Heap.set_same] at hcn; cases hcn
    have hc0 : h c = none := by rw [Heap.set_ne hcd] at hcn; exact hcn
    rw [w_store (Heap.set_same _ c _)]
    refine ⟨by simp, by simp, ?_⟩
    rw [Heap.set_set]
    have hset : ([[AV.e0, AV.e0]] : List (List AV)).set 0 (splice (([[AV.e0, AV.e0]] : List (List AV)).getD 0 []) 0 [AV.rs 2 (syCs s.syms), AV.os d s.funs.length]) = [[.rs 2 (syCs s.syms), .os d s.funs.length]] := rfl
    rw [hset]
    have hsc : ScO h ((h.set d (.arr 5 (fnCs s.funs))).set c (.arr 2 [[.rs 2 (syCs s.syms), .os d s.funs.length]])) c s := by
      refine ⟨d, Heap.set_same _ _ _, by rw [Heap.set_ne hcd.symm, Heap.set_same], hcd, hc0, hd, fun j n hj => ?_⟩
      have a1 : j ≠ c := fun e => by subst e; rw [hc0] at hj; cases hj
      have a2 : j ≠ d := fun e => by subst e; rw [hd] at hj; cases hj
      rw [Heap.set_ne a1, Heap.set_ne a2]; exact hj
    refine loop_down (fun m σ h' => σ = [] ∧ ∃ cur, SOk cur ∧ ScO h h' c cur ∧ meas cur = m ∧ ∀ s', Iter Step cur s' → Iter Step s s') (meas s) ⟨rfl, s, H, hsc, rfl, fun _ h => h⟩ ?_
    rintro m σ' h' K ⟨rfl, cur, Hc, hs, rfl, hit⟩ hK
    refine callS_of (O.call cur Hc h h' c _ hs fun b s1 hst h2 hs1 => ?_)
    cases b with
    | true =>
      simp only [w_brA, if_true]
      exact hK _ _ _ (O.less cur s1 Hc hst) ⟨rfl, s1, O.ok _ _ _ Hc hst, hs1, rfl, fun s' hi => hit s' (.more hst hi)⟩
    | false =>
      simp only [w_brA, Bool.false_eq_true, if_false]
      obtain ⟨d2, q1, q2, q3, q4, q5, q6⟩ := hs1
      rw [w_loadG_op q1]
      refine ⟨by simp, by omega, ?_⟩
      simp only [List.getD_cons_zero, List.drop_zero, g_0, g_1]
      exact retA_wk (Ref.tups (.cons (Ref.aggs (frz_refs q2 q5)) (.cons .refl .nil))) (HRef.sub q6) (hv H s1 (hit s1 (.done hst)))
  · have hf : schB s = false := Bool.eq_false_iff.2 fun e => H ((schB_iff s).1 e)
    rw [hf]
    simp
    exact retA_wk (Ref.tups (.cons (Ref.aggs (.cons .e0 (.cons .e0 .nil))) (.cons .refl .nil))) (HRef.refl h) (hn H)
def reachStep (s : Sch) (b : Bool) (s' : Sch) : Prop := ∃ l, IsR s l ∧ s' = reachS s l ∧ b = decide (s'.funs.length < s.funs.length)
theorem reach_op : Op 114 reachStep (fun s => s.funs.length) :=
  ⟨fun s H hb h c Q hs hq => trim_reach_c s H hs fun l hl h' hs' => hq _ _ ⟨l, hl, rfl, rfl⟩ h' hs',
   fun s b s' H ⟨l, hl, e, _⟩ => by rw [e]; exact reach_ok H hl,
   fun s s' H ⟨l, hl, e, hb⟩ => of_decide_eq_true hb.symm⟩
theorem reach_iter {s s' : Sch} (H : SOk s) {l : List Bool} (hl : IsR s l) (hi : Iter reachStep s s') : s' = reachS s l := by
  cases hi with
  | done h => obtain ⟨l', hl', e, _⟩ := h; rw [e, IsR.unique hl' hl]
  | @more _ s1 _ h hi =>
    obtain ⟨l', hl', e, _⟩ := h
    have e1 : s1 = reachS s l := by rw [e, IsR.unique hl' hl]
    subst e1
    cases hi with
    | done h => obtain ⟨l2, hl2, e2, _⟩ := h; rw [e2]; exact reach_twice H hl hl2
    | more h _ =>
      obtain ⟨l2, hl2, e2, hb⟩ := h
      have := of_decide_eq_true hb.symm
      rw [e2, reach_twice H hl hl2] at this
      omega
theorem trim_Reach_c (s : Sch) {h : Heap} {Q : AV → Heap → Prop} (hv : SOk s → ∀ s', (∀ l, IsR s l → s' = reachS s l) → SOk s' → Q (.tup [sm s', I 0]) h) (hn : ¬ SOk s → Q (.tup [sm ⟨[], []⟩, I 7]) h) : ACalls prog n_trim_Reach [sm s] h Q := by
  refine trim_Reach_call ?_
  unfold trim_Reach sm
  simp only [w_agg, List.length_cons, List.length_nil, true_and, g_0, g_1]
  refine callS_of ?_
  rw [sm_eta]
  refine trim_apply_c reach_op s (fun H s' hi => ?_) fun H => ?_
  · simp [sm]
    exact retA_of (hv H s' (fun l hl => reach_iter H hl hi) (hi.ok reach_op H))
  · simp [sm]
    exact retA_of (hn H)
end Am
/- trim.merge. -/
set_option linter.unusedVariables false
set_option linter.unusedSimpArgs false
namespace Am
open Go Go.Proofs.Try
open Rt (eqR eqRL eqR_iff)
def eqF (l : List Fn) (f g : Nat) : Prop := (l.getD f default).sort = (l.getD g default).sort ∧ (l.getD f default).body = (l.getD g default).body
structure IsPair (l : List Fn) (f g : Nat) : Prop where
  lt : f < g
  gl : g < l.length
  eq : eqF l f g
  before : ∀ g', g' < g → ∀ f', f' < g' → ¬ eqF l f' g'
  first : ∀ f', f' < f → ¬ eqF l f' g
def NoPair (l : List Fn) : Prop := ∀ g, g < l.length → ∀ f, f < g → ¬ eqF l f g
theorem IsPair.unique {l : List Fn} {f g f' g' : Nat} (a : IsPair l f g) (b : IsPair l f' g') : f = f' ∧ g = g' := by
  have hg : g = g' := by
    rcases Nat.lt_trichotomy g g' with h | h | h
    · exact absurd a.eq (b.before g h f a.lt)
    · exact h
    · exact absurd b.eq (a.before g' h f' b.lt)
  subst hg
  refine ⟨?_, rfl⟩
  rcases Nat.lt_trichotomy f f' with h | h | h
  · exact absurd a.eq (b.first f h)
  · exact h
  · exact absurd b.eq (a.first f' h)
def mergeStep (s : Sch) (b : Bool) (s' : Sch) : Prop := (b = true ∧ ∃ f g, IsPair s.funs f g ∧ s' = mergeS s f g) ∨ (b = false ∧ NoPair s.funs ∧ s' = s)
theorem ren_ren (a b : Int → Int) (t : Tm) : ren a (ren b t) = ren (fun k => a (b k)) t := by
  refine Rt.ind (P := fun t => ren a (ren b t) = ren (fun k => a (b k)) t) (fun l us ih => ?_) t
  simp only [ren, renL_eq, List.map_map]
  have e : us.map (ren a ∘ ren b) = us.map (ren fun k => a (b k)) := List.map_congr_left ih
  rw [e]
  congr 1
  by_cases k1 : l.1 = 1
  · simp [k1]
  · simp [k1]
theorem keepL_map {stay : Nat → Bool} (φ : Fn → Fn) (l : List Fn) : ∀ i, keepL stay i (l.map φ) = (keepL stay i l).map φ := by
  induction l with
  | nil => intro i; rfl
  | cons f l ih => intro i; simp only [List.map_cons, keepL, ih]; split <;> rfl
theorem num_map {stay : Nat → Bool} (φ : Fn → Fn) (l : List Fn) (k : Nat) : num stay (l.map φ) k = num stay l k := by
  unfold num
  rw [← List.map_take, keepL_map, List.length_map]
def toG (f g : Nat) (k : Int) : Int := if k = g then f else k
theorem merge_1_turner (c1 c2 f g : Nat) : PTurner 163 [.op c1 0 0, .op c2 0 0] [c1, c2] (fun h => h c1 = some (.arr 1 [[I g]]) ∧ h c2 = some (.arr 1 [[I f]])) (fun _ _ => True) (renF (toG f g)) where
  call a us h Q hR hP hl hq := by
    obtain ⟨h1, h2⟩ := hR
    refine trim_merge_1_call ?_
    unfold trim_merge_1 tm
    have hq : Q (tm (.mk (a.1, if a.1 = 1 then toG f g a.2 else a.2) us)) h := hq
    simp [tmC]
    by_cases k1 : a.1 = 1
    · simp only [k1, if_true] at hq ⊢
      rw [w_loadV_op h1]
      refine ⟨by simp, by omega, ?_⟩
      simp only [List.getD_cons_zero, g_0, w_eql, w_brA]
      unfold toG at hq
      by_cases k2 : a.2 = g
      · simp only [k2, if_true, decide_true] at hq ⊢
        rw [w_loadV_op h2]
        refine ⟨by simp, by omega, ?_⟩
        simp only [List.getD_cons_zero, g_0, w_one_v]
        exact retA_of hq
      · simp only [k2, if_false, decide_false, Bool.false_eq_true] at hq ⊢
        exact retA_of hq
    · simp only [k1, if_false] at hq ⊢
      exact retA_of hq
  live h hR j hj := by
    simp only [List.mem_cons, List.not_mem_nil, or_false] at hj
    rcases hj with rfl | rfl
    · exact ⟨_, hR.1⟩
    · exact ⟨_, hR.2⟩
  loc h h' hR he := ⟨by rw [he c1 (by simp)]; exact hR.1, by rw [he c2 (by simp)]; exact hR.2⟩
theorem trim_merge_2_c {id k v : Nat} {h : Heap} {Q : AV → Heap → Prop} (hi : h id = some (.arr 1 [[I v]])) (hq : Q (B (decide (k = v))) h) : ACalls prog 164 (I k :: [.op id 0 0]) h Q := by
  refine trim_merge_2_call ?_
  unfold trim_merge_2
  rw [w_loadV_op hi]
  refine ⟨by simp, by omega, ?_⟩
  have e : decide ((k : Int) = v) = decide (k = v) := by rw [decide_eq_decide]; omega
  simp only [List.getD_cons_zero, g_0, w_eql, e]
  exact retA_of hq
theorem ScO.set {hb h : Heap} {c : Nat} {s : Sch} (hs : ScO hb h c s) {i : Nat} (hi : h i = none) (n : Node) : ScO hb (h.set i n) c s := by
  obtain ⟨d, a1, a2, a3, a4, a5, a6⟩ := hs
  have n1 : c ≠ i := fun e => by subst e; rw [hi] at a1; cases a1
  have n2 : d ≠ i := fun e => by subst e; rw [hi] at a2; cases a2
  refine ⟨d, by rw [Heap.set_ne n1]; exact a1, by rw [Heap.set_ne n2]; exact a2, a3, a4, a5, fun j m hj => ?_⟩
  rw [Heap.set_ne]; exact a6 j m hj
  rintro rfl; have := a6 j m hj; rw [hi] at this; cases this
theorem getD_fn {l : List Fn} {k : Nat} (hk : k < l.length) : l.getD k default = l[k] := by simp [List.getD_eq_getElem?_getD, hk]
theorem trim_merge_c (s : Sch) (H : SOk s) {hb h : Heap} {c : Nat} (hs : ScO hb h c s) {Q : AV → Heap → Prop} (hq : ∀ b s', mergeStep s b s' → ∀ h', ScO hb h' c s' → Q (B b) h') : ACalls prog n_trim_merge [.op c 0 0] h Q := by
  have hpos := H.pos
  have hfw := H.few
  refine trim_merge_call ?_
  unfold trim_merge
  have hs0 := hs
  obtain ⟨d0, hc0, hd0, _⟩ := hs0
  simp only [w_nil_op, w_fld_op]
  rw [w_loadV_op hc0]
  refine ⟨by simp, by omega, ?_⟩
  simp only [List.getD_cons_zero, Nat.zero_add, g_0, g_1, w_len_os]
  refine loop_up s.funs.length (fun k σ h' => σ = [I k] ∧ ScO hb h' c s ∧ ∀ g', g' < k → ∀ f', f' < g' → ¬ eqF s.funs f' g') ⟨rfl, hs, fun g' h => by omega⟩ (fun k σ' h' ⟨e, _⟩ => by rw [e]; rfl) ?_
  rintro k σ' h1 K hk ⟨rfl, hs1, hno⟩ hK
  by_cases hlt : k < s.funs.length
  · have hlt' : (k : Int) < s.funs.length := by omega
    simp only [g_0, w_lss, hlt', decide_true, w_brA, if_true]
    intro i8 hi8
    simp only [w_one_v]
    rw [w_store (Heap.set_same _ i8 _)]
    refine ⟨by simp, by simp, ?_⟩
    rw [Heap.set_set]
    have hset8 : ([[I 0]] : List (List AV)).set 0 (splice (([[I 0]] : List (List AV)).getD 0 []) 0 [I k]) = [[I k]] := rfl
    rw [hset8, w_loadV_op (Heap.set_same _ i8 _)]
    refine ⟨by simp, by omega, ?_⟩
    simp only [List.getD_cons_zero, g_0]
    have hs2 := hs1.set hi8 (.arr 1 [[I k]])
    refine loop_up k (fun j σ h' => σ = [I j] ∧ ScO hb h' c s ∧ h' i8 = some (.arr 1 [[I k]]) ∧ ∀ f', f' < j → ¬ eqF s.funs f' k) ⟨rfl, hs2, Heap.set_same _ _ _, fun f' h => by omega⟩ (fun k σ' h' ⟨e, _⟩ => by rw [e]; rfl) ?_
    rintro j σ' h3 K2 hj ⟨rfl, hs3, h8, hno2⟩ hK2
    by_cases hjk : j < k
    · have hjk' : (j : Int) < k := by omega
      have hjl : j < s.funs.length := by omega
      have hjl' : (j : Int) < s.funs.length := by omega
      simp only [g_0, w_lss, hjk', decide_true, w_brA, if_true]
      intro i16 hi16
      simp only [w_one_v]
      rw [w_store (Heap.set_same _ i16 _)]
      refine ⟨by simp, by simp, ?_⟩
      rw [Heap.set_set]
      have hset16 : ([[I 0]] : List (List AV)).set 0 (splice (([[I 0]] : List (List AV)).getD 0 []) 0 [I j]) = [[I j]] := rfl
      rw [hset16]
      have hs4 := hs3.set hi16 (.arr 1 [[I j]])
      have n816 : i8 ≠ i16 := fun e => by subst e; rw [hi16] at h8; cases h8
      have h8' : (h3.set i16 (.arr 1 [[I j]])) i8 = some (.arr 1 [[I k]]) := by rw [Heap.set_ne n816]; exact h8
      have h16' := Heap.set_same h3 i16 (.arr 1 [[I j]])
      generalize h3.set i16 (.arr 1 [[I j]]) = h4 at hs4 h8' h16'
      have hs4' := hs4
      obtain ⟨d, hc, hd, hcd, bc, bd, hfr⟩ := hs4
      have hfj := List.getElem_mem hjl
      have hfk := List.getElem_mem hlt
      have nj := okS_nodes (H.srt hfj)
      have nk := okS_nodes (H.srt hfk)
      have bj := H.body hfj
      have bk := H.body hfk
      have dlen : (fnCs s.funs).length = s.funs.length := fnCs_len _
      rw [w_loadV_op hc]
      refine ⟨by simp, by omega, ?_⟩
      simp only [List.getD_cons_zero, g_0, g_1]
      rw [w_loadV_op h16']
      refine ⟨by simp, by omega, ?_⟩
      simp only [List.getD_cons_zero, g_0]
      rw [w_idx_os hd]
      refine ⟨rfl, by omega, hjl', by rw [dlen]; exact Nat.le_refl _, ?_⟩
      simp only [w_fld_op, Int.toNat_natCast, Nat.zero_add]
      rw [w_loadG_op hd, fnCs_get hjl]
      refine ⟨by rw [dlen]; exact hjl, by omega, ?_⟩
      rw [w_loadV_op hc]
      refine ⟨by simp, by omega, ?_⟩
      simp only [List.getD_cons_zero, g_0, g_1]
      rw [w_loadV_op h8']
      refine ⟨by simp, by omega, ?_⟩
      simp only [List.getD_cons_zero, g_0]
      rw [w_idx_os hd]
      refine ⟨rfl, by omega, hlt', by rw [dlen]; exact Nat.le_refl _, ?_⟩
      simp only [w_fld_op, Int.toNat_natCast, Nat.zero_add]
      rw [w_loadG_op hd, fnCs_get hlt]
      refine ⟨by rw [dlen]; exact hlt, by omega, ?_⟩
      simp only [fnC, List.drop_succ_cons, List.drop_zero, g_0]
      refine callS_of ?_
      simp only [sr_eta]
      refine sorts_Same_c _ _ ?_
      simp only [nj, decide_true, Bool.true_and, w_brA]
      have next : ¬ eqF s.funs j k → K2 [I ((j + 1 : Nat) : Int)] h4 := fun hne => hK2 hjk _ _ ⟨rfl, hs4', h8', fun f' hf' => by
        by_cases e : f' = j
        · subst e; exact hne
        · exact hno2 f' (by omega)⟩
      cases he1 : eqR s.funs[j].sort s.funs[k].sort with
      | false =>
        simp only [Bool.false_eq_true, if_false]
        rw [w_add, wrap_k (k := j) (by omega)]
        refine next fun e => ?_
        have := e.1
        rw [getD_fn hjl, getD_fn hlt] at this
        rw [this, Rt.eqR_refl] at he1; cases he1
      | true =>
        simp only [if_true]
        rw [w_loadV_op hc]
        refine ⟨by simp, by omega, ?_⟩
        simp only [List.getD_cons_zero, g_0, g_1]
        rw [w_loadV_op h16']
        refine ⟨by simp, by omega, ?_⟩
        simp only [List.getD_cons_zero, g_0]
        rw [w_idx_os hd]
        refine ⟨rfl, by omega, hjl', by rw [dlen]; exact Nat.le_refl _, ?_⟩
        simp only [w_fld_op, Int.toNat_natCast, Nat.zero_add]
        rw [w_loadG_op hd, fnCs_get hjl]
        refine ⟨by rw [dlen]; exact hjl, by omega, ?_⟩
        rw [w_loadV_op hc]
        refine ⟨by simp, by omega, ?_⟩
        simp only [List.getD_cons_zero, g_0, g_1]
        rw [w_loadV_op h8']
        refine ⟨by simp, by omega, ?_⟩
        simp only [List.getD_cons_zero, g_0]
        rw [w_idx_os hd]
        refine ⟨rfl, by omega, hlt', by rw [dlen]; exact Nat.le_refl _, ?_⟩
        simp only [w_fld_op, Int.toNat_natCast, Nat.zero_add]
        rw [w_loadG_op hd, fnCs_get hlt]
        refine ⟨by rw [dlen]; exact hlt, by omega, ?_⟩
        simp only [fnC, List.drop_succ_cons, List.drop_zero, g_0, g_1, g_2]
        refine callS_of ?_
        simp only [tm_eta]
        refine term_Same_c _ _ ?_
        have e5 : decide (s.funs[j].body.nodes ≤ 100000) = true := decide_eq_true (by omega)
        have e6 : decide (s.funs[k].body.nodes ≤ 100000) = true := decide_eq_true (by omega)
        simp only [e5, e6, Bool.true_and, w_brA]
        cases he2 : eqR s.funs[j].body s.funs[k].body with
        | false =>
          simp only [Bool.false_eq_true, if_false]
          rw [w_add, wrap_k (k := j) (by omega)]
          refine next fun e => ?_
          have := e.2
          rw [getD_fn hjl, getD_fn hlt] at this
          rw [this, Rt.eqR_refl] at he2; cases he2
        | true =>
          simp only [if_true]
          have heq : eqF s.funs j k := ⟨by rw [getD_fn hjl, getD_fn hlt]; exact (eqR_iff _ _).1 he1, by rw [getD_fn hjl, getD_fn hlt]; exact (eqR_iff _ _).1 he2⟩
          have hpair : IsPair s.funs j k := ⟨hjk, hlt, heq, hno, hno2⟩
          have n8d : d ≠ i8 := fun e => by subst e; rw [h8'] at hd; cases hd
          have n16d : d ≠ i16 := fun e => by subst e; rw [h16'] at hd; cases hd
          have n8c : i8 ≠ c := fun e => by subst e; rw [h8'] at hc; cases hc
          refine callS_of (trim_rewrite_c (merge_1_turner i8 i16 j k) hc hd hcd (by simp [n8d, n16d]) ⟨h8', h16'⟩ (fun f hf => ⟨allT_true _, by have := H.body hf; omega⟩) hfw ?_)
          have hl2 : (s.funs.map (reb (renF (toG j k)))).length = s.funs.length := by simp
          have hc5 : (h4.set d (.arr 5 (fnCs (s.funs.map (reb (renF (toG j k))))))) c = some (.arr 2 [[.rs 2 (syCs s.syms), .os d s.funs.length]]) := by rw [Heap.set_ne hcd]; exact hc
          have hfr5 : ∀ j2 n, hb j2 = some n → (h4.set d (.arr 5 (fnCs (s.funs.map (reb (renF (toG j k))))))) j2 = some n := fun j2 n hj2 => by
            rw [Heap.set_ne]; exact hfr j2 n hj2
            rintro rfl; rw [bd] at hj2; cases hj2
          obtain ⟨hf, r1, r2, ⟨r3, r4, r5⟩, r6⟩ := frz_sch (s := ⟨s.syms, s.funs.map (reb (renF (toG j k)))⟩) (by rw [hl2]; exact hc5) (Heap.set_same _ d _) hcd bc bd hfr5
          have h8f : hf i8 = some (.arr 1 [[I k]]) := by rw [r6 i8 n8c n8d.symm, Heap.set_ne n8d.symm]; exact h8'
          refine callS_wk (args' := [.op c 0 0, .fn 164 [.op i8 0 0]]) (.cons .refl (.cons .refl .nil)) r1 ?_
          have hcm : ∀ t : Tm, ∀ m, m ∈ fcs (ren (toG j k) t) → ∃ m', m' ∈ fcs t ∧ m = toG j k m' := fun t => by
            refine Rt.ind (P := fun t => ∀ m, m ∈ fcs (ren (toG j k) t) → ∃ m', m' ∈ fcs t ∧ m = toG j k m') (fun a us ih => ?_) t
            intro m hm
            simp only [ren, renL_eq, fcs, List.mem_append] at hm ⊢
            rcases hm with hm | hm
            · by_cases k1 : a.1 = 1
              · rw [if_pos k1, if_pos k1] at hm
                exact ⟨a.2, .inl (by simp [k1]), by simpa using hm⟩
              · rw [if_neg k1] at hm; cases hm
            · obtain ⟨u, hu, hm⟩ := fcsL_mem.1 hm
              obtain ⟨v, hv, rfl⟩ := List.mem_map.1 hu
              obtain ⟨m', h1, h2⟩ := ih v hv m hm
              exact ⟨m', .inr (fcsL_mem.2 ⟨v, hv, h1⟩), h2⟩
          refine trim_without_c (Cg := [i8]) (stay := fun x => !decide (x = k)) (l := s.funs.map (reb (renF (toG j k)))) r3 (fun x hx h' Q hsame hQ => ?_) (fun j2 hj2 => ?_) (fun f hf2 m hm => ?_) (fun f hf2 => ?_) (by simp; omega) (by simp; omega) (by simp; omega) fun h' d' e1 e2 e3 e4 e5 => ?_
          · refine trim_merge_2_c (by rw [hsame i8 (by simp)]; exact h8f) (by simpa using hQ)
          · have : j2 = i8 := by simpa using hj2
            subst this; exact ⟨_, h8f⟩
          · obtain ⟨f0, hf0, rfl⟩ := List.mem_map.1 hf2
            simp only [reb, mapT_ren] at hm
            obtain ⟨m', q1, q2⟩ := hcm f0.body m hm
            obtain ⟨b0, b1⟩ := H.calls hf0 q1
            rw [q2]
            unfold toG
            simp only [List.length_map]
            split <;> omega
          · obtain ⟨f0, hf0, rfl⟩ := List.mem_map.1 hf2
            simp only [reb, mapT_ren, ren_nodes]
            have := H.body hf0; omega
          have hkl : (keepL (fun x => !decide (x = k)) 0 (s.funs.map (reb (renF (toG j k))))).length = (mergeS s j k).funs.length := by
            rw [keepL_map, List.length_map]; unfold mergeS; rw [keepS_len]
          have hfuns : (keepL (fun x => !decide (x = k)) 0 (s.funs.map (reb (renF (toG j k))))).map (fun f => (⟨f.name, f.sort, ren (toN (fun x => !decide (x = k)) (s.funs.map (reb (renF (toG j k))))) f.body⟩ : Fn)) = (mergeS s j k).funs := by
            unfold mergeS keepS
            rw [keepL_map, List.map_map]
            refine List.map_congr_left fun f hfk => ?_
            show (⟨f.name, f.sort, _⟩ : Fn) = _
            congr 1
            show ren _ (mapT (renF (toG j k)) f.body) = _
            rw [mapT_ren, ren_ren]
            refine ren_congr _ fun m hm => ?_
            have hfm : f ∈ s.funs := (keepL_sub _ _ 0).subset hfk
            obtain ⟨b0, b1⟩ := H.calls hfm hm
            unfold toM toN toG
            rw [num_map]
            by_cases e : m = k
            · rw [if_pos e, if_pos e, Int.toNat_natCast]
            · rw [if_neg e, if_neg e]
          refine retA_of (hq true _ (.inl ⟨rfl, j, k, hpair, rfl⟩) h' ⟨d', ?_, ?_, e3, r4, ?_, fun j2 n hj2 => e5 j2 n (r5 j2 n hj2) fun e => by subst e; rw [r4] at hj2; cases hj2⟩)
          · rw [← hkl]; exact e1
          · rw [← hfuns]; exact e2
          · cases hbd : hb d' with
            | none => rfl
            | some n => have := r5 d' n hbd; rw [e4] at this; cases this
    · have hjk2 : j = k := by omega
      subst hjk2
      simp only [g_0, w_lss, Int.lt_irrefl, decide_false, w_brA, Bool.false_eq_true, if_false]
      rw [w_add, wrap_k (k := j) (by omega)]
      refine hK hlt _ _ ⟨rfl, hs3, fun g' hg' f' hf' => ?_⟩
      by_cases e : g' = j
      · subst e; exact hno2 f' hf'
      · exact hno g' (by omega) f' hf'
  · have hkn : k = s.funs.length := by omega
    subst hkn
    simp only [g_0, w_lss, Int.lt_irrefl, decide_false, w_brA, Bool.false_eq_true, if_false]
    exact retA_of (hq false s (.inr ⟨rfl, hno, rfl⟩) _ hs1)
end Am
