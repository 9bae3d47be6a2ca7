/- The reference: known, the least fixed point. -/
import Derived.Test.YtoifckjdnldlpaaZGa
set_option linter.unusedVariables false
set_option linter.unusedSimpArgs false
namespace Am
open Go Go.Proofs.Try
structure GrowK (σ σ' : KS) : Prop where
  hd : ∀ p h, h ∈ σ.hd p → h ∈ σ'.hd p
  cm : ∀ k p, p ∈ σ.cm k → p ∈ σ'.cm k
theorem GrowK.refl (σ : KS) : GrowK σ σ := ⟨fun _ _ h => h, fun _ _ h => h⟩
theorem GrowK.trans {a b c : KS} (h1 : GrowK a b) (h2 : GrowK b c) : GrowK a c := ⟨fun p h hh => h2.hd p h (h1.hd p h hh), fun k p hp => h2.cm k p (h1.cm k p hp)⟩
structure Proc (s : Sch) (R : Nat → Prop) (σ0 σ : KS) (q : Pc) : Prop where
  fn : ∀ g : Nat, labP s q = (1, (g : Int)) → (g, 0) ∈ σ.hd q
  var : ∀ i : Nat, labP s q = (0, (i : Int)) → ∀ p, p ∈ σ0.cm (q.1, i) → ∀ h, h ∈ σ0.hd p → (h.1, h.2 + nA s p) ∈ σ.hd q
  arg : R q.1 → ∀ h, h ∈ σ0.hd q → ∀ j, j < nA s q → h.2 + j < ar s h.1 → argAt s q j ∈ σ.cm (h.1, h.2 + j)
theorem Proc.mono {s : Sch} {R : Nat → Prop} {σ0 σ σ' : KS} {q : Pc} (h : Proc s R σ0 σ q) (g : GrowK σ σ') : Proc s R σ0 σ' q :=
  ⟨fun i hi => g.hd _ _ (h.fn i hi), fun i hi p hp hh hhh => g.hd _ _ (h.var i hi p hp hh hhh), fun hr hh hhh j hj hc => g.cm _ _ (h.arg hr hh hhh j hj hc)⟩
theorem same_of {l l' : List Pc} (hn : l.Nodup) (hs : ∀ x, x ∈ l → x ∈ l') (hl : l'.length ≤ l.length) : ∀ x, x ∈ l' → x ∈ l := fun x hx => by
  by_cases h : x ∈ l
  · exact h
  · have : (x :: l).length ≤ l'.length := List.Nodup.length_le_of_subset (List.nodup_cons.2 ⟨h, hn⟩) fun y hy => by
      rcases List.mem_cons.1 hy with rfl | hy
      · exact hx
      · exact hs y hy
    simp at this; omega
section
variable {s : Sch} {R : Nat → Prop} {σ σ0 : KS} {hb h : Heap} {l : Lo} {c : Con}
theorem sz_mono (I0 : KInv s R σ0) (I1 : KInv s R σ) (g : GrowK σ0 σ) : szK s σ0 ≤ szK s σ :=
  sumN_mono fun f _ => Nat.add_le_add (sumN_mono fun i _ => List.Nodup.length_le_of_subset (I0.hn _) fun x hx => g.hd _ x hx) (sumN_mono fun i _ => List.Nodup.length_le_of_subset (I0.cs _).2 fun x hx => g.cm _ x hx)
theorem sz_same (I0 : KInv s R σ0) (I1 : KInv s R σ) (g : GrowK σ0 σ) (he : szK s σ0 = szK s σ) : (∀ p, okP s p → ∀ x, x ∈ σ.hd p → x ∈ σ0.hd p) ∧ ∀ k, okK s k → ∀ x, x ∈ σ.cm k → x ∈ σ0.cm k := by
  have h1 : ∀ f, f < s.funs.length → szH s σ0 f ≤ szH s σ f := fun f _ => sumN_mono fun i _ => List.Nodup.length_le_of_subset (I0.hn _) fun x hx => g.hd _ x hx
  have h2 : ∀ f, f < s.funs.length → szC s σ0 f ≤ szC s σ f := fun f _ => sumN_mono fun i _ => List.Nodup.length_le_of_subset (I0.cs _).2 fun x hx => g.cm _ x hx
  have h3 := sumN_eq (n := s.funs.length) (f := fun f => szH s σ0 f + szC s σ0 f) (g := fun f => szH s σ f + szC s σ f) (fun f hf => Nat.add_le_add (h1 f hf) (h2 f hf)) he
  refine ⟨fun p hp => ?_, fun k hk => ?_⟩
  · have h4 := h3 p.1 hp.1
    have h5 := h1 p.1 hp.1
    have h6 := h2 p.1 hp.1
    have h7 := sumN_eq (n := nN s p.1) (f := fun i => (σ0.hd (p.1, i)).length) (g := fun i => (σ.hd (p.1, i)).length) (fun i _ => List.Nodup.length_le_of_subset (I0.hn _) fun x hx => g.hd _ x hx) (by show szH s σ0 p.1 = szH s σ p.1; omega) p.2 hp.2
    have h8 : (σ0.hd p).length = (σ.hd p).length := h7
    exact same_of (I0.hn p) (g.hd p) (by omega)
  · have h4 := h3 k.1 hk.1
    have h5 := h1 k.1 hk.1
    have h6 := h2 k.1 hk.1
    have h7 := sumN_eq (n := ar s k.1) (f := fun i => (σ0.cm (k.1, i)).length) (g := fun i => (σ.cm (k.1, i)).length) (fun i _ => List.Nodup.length_le_of_subset (I0.cs _).2 fun x hx => g.cm _ x hx) (by show szC s σ0 k.1 = szC s σ k.1; omega) k.2 hk.2
    have h8 : (σ0.cm k).length = (σ.cm k).length := h7
    exact same_of (I0.cs k).2 (g.cm k) (by omega)
theorem closed_all (H : SOk s) (hs : (∀ p, okP s p → ∀ x, x ∈ σ.hd p → x ∈ σ0.hd p) ∧ ∀ k, okK s k → ∀ x, x ∈ σ.cm k → x ∈ σ0.cm k) (hp : ∀ q, okP s q → Proc s R σ0 σ q) {b : Bool} {x y : Pc} (h : FlP s R b x y) : (b = true → y ∈ σ0.cm x) ∧ (b = false → y ∈ σ0.hd x) := by
  induction h with
  | @fn p g hp1 hl => exact ⟨fun h => (by cases h), fun _ => hs.1 p hp1 _ ((hp p hp1).fn g hl)⟩
  | @var q p h i hq hl hc hh ihc ihh => exact ⟨fun h => (by cases h), fun _ => hs.1 q hq _ ((hp q hq).var i hl p (ihc.1 rfl) h (ihh.2 rfl))⟩
  | @arg p h j hp1 hr hh hj ha ih => exact ⟨fun _ => hs.2 (h.1, h.2 + j) ⟨((hh.typed H).1 rfl).2.1, ha⟩ _ ((hp p hp1).arg hr h (ih.2 rfl) j hj ha), fun h => (by cases h)⟩
theorem grow5 (Rc : RC hb c l h) {a : Ad} {n f : Nat} {cs : List AV} {els : List (List AV)} {x y : AV} {P : Nat} (hP : l .pa = P) (ha : a ≠ .pa) (hc : c .pa = some (.arr 5 [cs])) (hx : x = if f = 0 then .e0 else .os (l a) f) (hel : els.length = f) (hca : f ≠ 0 → c a = some (.arr 1 els)) (hn : n < 5) (hf : f ≤ 1000000) {K : Heap → Prop}
    (hk : ∀ i h', RC hb ((c.set a (.arr 1 (els ++ [[y]]))).set .pa (.arr 5 [cs.set n (.os i (f + 1))])) (l.set a i) h' → K h') :
    appA 1 24 x (.rs 1 [[y]]) h fun x' h' => nilA (.op P 0 0) <| fldA n (.op P 0 0) fun q => oneA x' <| storeG q [x'] h' K := by
  refine Rc.app1 a (els := els) ?_ (by omega) fun i h' R1 => ?_
  · by_cases e : f = 0
    · exact .inl ⟨by rw [hx, if_pos e], List.eq_nil_of_length_eq_zero (by omega)⟩
    · exact .inr ⟨f, els, by rw [hx, if_neg e], hca e, by omega, by rw [List.take_of_length_le (by omega)]⟩
  · have xa : h' P = some (.arr 5 [cs]) := by
      have := R1.own .pa (.arr 5 [cs]) (by rw [Con.set_ne (Ne.symm ha)]; exact hc)
      rwa [Lo.set_ne (Ne.symm ha), hP] at this
    rw [w_nil_op, w_fld_op, w_one_os, Nat.zero_add, hel]
    refine st_at xa hn ?_
    have R2 := R1.upd (a := .pa) (.arr 5 [cs.set n (.os i (f + 1))]) (m := .arr 5 [cs]) (by rw [Con.set_ne (Ne.symm ha)]; exact hc)
    rw [Lo.set_ne (Ne.symm ha), hP] at R2
    exact hk i _ R2
theorem RC.ref1 (Rc : RC hb c l h) {a : Ad} {sz : Nat} {els els' : List (List AV)} (ha : c a = some (.arr sz els)) (hl : els'.length = els.length) (hz : ∀ i, i < els.length → (els'.getD i []).length = sz) (hr : ∀ z, ∀ i j, i < els.length → j < sz → Ref h z (g (els.getD i []) j) (g (els'.getD i []) j)) :
    HRef h (h.set (l a) (.arr sz els')) ∧ RC hb (c.set a (.arr sz els')) l (h.set (l a) (.arr sz els')) := by
  refine ⟨fun i n hi => ?_, Rc.upd _ ha⟩
  by_cases e : i = l a
  · subst e
    rw [Heap.set_same] at hi
    cases hi
    exact ⟨_, Rc.own a _ ha, .arr hl hz (hr _)⟩
  · rw [Heap.set_ne e] at hi
    exact ⟨n, hi, .refl⟩
end
end Am
