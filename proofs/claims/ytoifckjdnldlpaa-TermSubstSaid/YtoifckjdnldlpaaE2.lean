/- A drawn region whose check holds is told by the machine. -/
import Derived.Test.YtoifckjdnldlpaaE1
set_option linter.unusedVariables false
set_option linter.unusedSimpArgs false
namespace Am
open Go
section
variable {P : Program} {cf : Cfg} {b : Base} {fz : Fz} {k : K} {ops : Array Oper} {Q : Exit → Act → World → Prop} {ord : List Nat}
theorem ready_mem {listed : Array Bool} (hsz : listed.size = ops.size) {i : Nat} : i ∈ Region.ready .any ops listed ↔ ∃ o, ops[i]? = some o ∧ listed.getD i false = false ∧ ∀ j, j ∈ edges o → listed.getD j false = true := by
  unfold Region.ready edges
  simp only [List.mem_filter, List.mem_range, Bool.and_eq_true, Bool.not_eq_true']
  constructor
  · rintro ⟨h1, h2, h3⟩
    obtain ⟨o, ho⟩ : ∃ o, ops[i]? = some o := ⟨ops[i], by simp [h1]⟩
    refine ⟨o, ho, ?_, fun j hj => ?_⟩
    · simpa [Array.getD_eq_getD_getElem?, show i < listed.size by omega] using h2
    · rw [ho] at h3
      simp only [Option.map_some, Option.getD_some] at h3
      simp only [List.mem_map, List.mem_filter, Array.mem_toList_iff] at hj
      obtain ⟨ed, ⟨h4, h5⟩, rfl⟩ := hj
      have := Array.all_eq_true'.1 h3 ed h4
      simpa [h5] using this
  · rintro ⟨o, ho, h2, h3⟩
    have h1 : i < ops.size := (Array.getElem?_eq_some_iff.1 ho).1
    refine ⟨h1, ?_, ?_⟩
    · simpa [Array.getD_eq_getD_getElem?, show i < listed.size by omega] using h2
    · rw [ho]
      simp only [Option.map_some, Option.getD_some]
      refine Array.all_eq_true'.2 fun ed hed => ?_
      cases hb : Region.binds .any ed with
      | false => simp
      | true =>
        have := h3 ed.on (List.mem_map_of_mem (by simp [hed, hb]))
        simp [this]
theorem getD_setI {listed : Array Bool} {i x : Nat} (hi : i < listed.size) : (listed.setIfInBounds i true).getD x false = if x = i then true else listed.getD x false := by
  simp only [Array.getD_eq_getD_getElem?, Array.getElem?_setIfInBounds]
  by_cases h : i = x
  · subst h; simp [hi]
  · simp [h, Ne.symm h]
theorem Kept.undraw {env env' : Env} {loc loc' : Loc} {d : Bool} {gg : List Nat} (h : Kept ⟨fz.t, fz.l, fz.a, d, gg⟩ env env' loc loc') : Kept fz env env' loc loc' := ⟨h.len, h.env, h.vars, h.keys, h.lens⟩
theorem draw_core (HT : TabOk P cf) (hpw : ord.Pairwise fun j i => okB cf ops (preT ops.toList) j i = true) (hlt : ∀ i, i ∈ ord → i < ops.size) (hall : ∀ i, i < ops.size → i ∈ ord) (hedge : ∀ i o, ops[i]? = some o → ∀ j, j ∈ edges o → j < i) :
    ∀ (fuel : Nat) (listed : Array Bool) {env : Env} {loc : Loc} {h : Heap} {a : Act} {w : World} {C : Cx} {β : Nat → Option Nat}, listed.size = ops.size → Closed ops listed → (ord.filter fun i => !listed.getD i false).length ≤ fuel →
      SR b env loc h a w C β → FzOk fz env → awpOps P cf ⟨fz.t, fz.l, fz.a, true, cf.gds⟩ ops ((ord.filter fun i => !listed.getD i false).map (onth ops.toList)) k env loc h →
      (∀ a w, Next b fz env loc k a w → Q .normal a w) → wpAny P .any ops Q fuel listed a w := by
  intro fuel
  induction fuel with
  | zero =>
    intro listed env loc h a w C β hsz hc hf H hfz hk hq
    have hr : (ord.filter fun i => !listed.getD i false) = [] := List.eq_nil_of_length_eq_zero (by omega)
    rw [hr] at hk
    refine ⟨?_, hq a w ⟨env, loc, h, C, β, H, Kept.refl _ _ _, hk⟩⟩
    rw [List.eq_nil_iff_forall_not_mem]
    intro i hi
    obtain ⟨o, ho, h2, h3⟩ := (ready_mem hsz).1 hi
    have : i ∈ ord.filter fun i => !listed.getD i false := List.mem_filter.2 ⟨hall i (Array.getElem?_eq_some_iff.1 ho).1, by simp [h2]⟩
    rw [hr] at this; cases this
  | succ fuel ih =>
    intro listed env loc h a w C β hsz hc hf H hfz hk hq
    refine ⟨fun hrd => ?_, fun i hi => ?_⟩
    · have hr : (ord.filter fun i => !listed.getD i false) = [] := by
        rw [List.eq_nil_iff_forall_not_mem]
        intro i hi
        obtain ⟨i1, i2⟩ := List.mem_filter.1 hi
        obtain ⟨n, ⟨n1, n2⟩, n3⟩ := exists_least (p := fun x => x < ops.size ∧ listed.getD x false = false) ⟨i, hlt i i1, by simpa using i2⟩
        have hn : n ∈ Region.ready .any ops listed := (ready_mem hsz).2 ⟨ops[n], by simp [n1], n2, fun j hj => by
          have hj' := hedge n ops[n] (by simp [n1]) j hj
          cases hb : listed.getD j false with
          | true => rfl
          | false => have := n3 j ⟨by omega, hb⟩; omega⟩
        rw [hrd] at hn; cases hn
      rw [hr] at hk
      exact hq a w ⟨env, loc, h, C, β, H, Kept.refl _ _ _, hk⟩
    · obtain ⟨o, ho, h2, h3⟩ := (ready_mem hsz).1 hi
      have hil := (Array.getElem?_eq_some_iff.1 ho).1
      have him : i ∈ ord.filter fun i => !listed.getD i false := List.mem_filter.2 ⟨hall i hil, by simp [h2]⟩
      obtain ⟨r1, r2, hr⟩ := List.append_of_mem him
      have hpw2 := hpw.filter (fun i => !listed.getD i false)
      rw [hr] at hpw2
      obtain ⟨_, p2, p3⟩ := List.pairwise_append.1 hpw2
      have hon : onth ops.toList i = o := by
        rw [onth_eq]; simp [List.getD_eq_getElem?_getD, ho]
      rw [hr, List.map_append, List.map_cons, hon] at hk
      have hk2 := pull (fz := ⟨fz.t, fz.l, fz.a, true, cf.gds⟩) rfl (fun j hj => by
        obtain ⟨m, hm, rfl⟩ := List.mem_map.1 hj
        have := p3 m hm i (by simp)
        simp only [okB, Bool.and_eq_true, Bool.or_eq_true] at this
        rw [hon] at this
        refine this.2.resolve_left fun hp => ?_
        have hp := preT_path (ops := ops) ops.toList [] [] (by simp) rfl (fun i j h => by simp at h) i m ((nmem_eq _ _).1 hp)
        have hl := hc.path hp (fun o' ho' => by rw [ho] at ho'; cases ho'; exact h3)
        have hm2 : m ∈ ord.filter fun i => !listed.getD i false := by rw [hr]; simp [hm]
        have := (List.mem_filter.1 hm2).2
        rw [hl] at this; cases this) hk
      refine wpOp_mono (fun a w hn => ?_) (one_sound (fz := ⟨fz.t, fz.l, fz.a, true, cf.gds⟩) HT H hfz ho hk2)
      obtain ⟨env', loc', h', C', β', H', K', hk3⟩ := hn
      have hi' : i < listed.size := by omega
      have hne : ∀ x, x ∈ r1 ∨ x ∈ r2 → x ≠ i := by
        rintro x (hx | hx) rfl
        · have := p3 x hx x (by simp)
          simp [okB] at this
        · have := (List.pairwise_cons.1 p2).1 x hx
          simp [okB] at this
      have hr' : (ord.filter fun x => !(listed.setIfInBounds i true).getD x false) = r1 ++ r2 := by
        have e1 : (ord.filter fun x => !(listed.setIfInBounds i true).getD x false) = (ord.filter fun x => !listed.getD x false).filter fun x => !(x == i) := by
          rw [List.filter_filter]
          congr 1
          funext x
          rw [getD_setI hi']
          by_cases e : x = i <;> simp [e]
        rw [e1, hr, List.filter_append, List.filter_cons]
        simp only [beq_self_eq_true, Bool.not_true, Bool.false_eq_true, if_false]
        rw [List.filter_eq_self.2 (fun x hx => by simp [hne x (.inl hx)]), List.filter_eq_self.2 (fun x hx => by simp [hne x (.inr hx)])]
      refine ih (listed.setIfInBounds i true) (by simpa using hsz) (fun x o' hx ho' j hj => ?_) ?_ H' (hfz.kept K'.undraw) ?_ (fun a w hn => hq a w (Next.kept K'.undraw hn))
      · rw [getD_setI hi'] at hx ⊢
        split
        · rfl
        · by_cases e : x = i
          · subst e; rw [ho] at ho'; cases ho'; exact h3 j hj
          · rw [if_neg e] at hx; exact hc x o' hx ho' j hj
      · rw [hr']
        rw [hr] at hf
        simp only [List.length_append, List.length_cons] at hf ⊢
        omega
      · rw [hr', List.map_append]; exact hk3
theorem drawn_ok (HT : TabOk P cf) {id : Nat} (ho : annO cf.draws id = some ord) (hck : drawOk cf ops ord = true) : DrawnOk P cf id ops := by
  simp only [drawOk, Bool.and_eq_true] at hck
  obtain ⟨⟨⟨⟨h0, h1⟩, h2⟩, h3⟩, h4⟩ := hck
  intro fz b env loc h a w C β k Q ord' ho' H hfz hk hq
  rw [ho] at ho'; cases ho'
  have hall : ∀ i, i < ops.size → i ∈ ord := fun i hi => (nmem_eq _ _).1 (List.all_eq_true.1 h3 i (by simp [hi]))
  have hlt : ∀ i, i ∈ ord → i < ops.size := fun i hi => by have := List.all_eq_true.1 h2 i hi; simpa [Nat.blt_eq] using this
  have hf : (ord.filter fun i => !(Array.replicate ops.size false).getD i false) = ord := List.filter_eq_self.2 fun i hi => by
    simp [Array.getD_eq_getD_getElem?, Array.getElem?_replicate]
    split <;> simp
  have hpk : ∀ (l : List Nat), pickOps ops.toList l = l.map (onth ops.toList) := fun l => by
    induction l with
    | nil => rfl
    | cons i r ih => simp only [pickOps, List.map_cons, ih]
  have hpw := pairsB_pw h1
  refine draw_core HT hpw hlt hall (fun i o hi j hj => ?_) ops.size (Array.replicate ops.size false) (by simp) (fun i o hx _ j _ => ?_) ?_ H hfz (by rw [hf, ← hpk]; exact hk) hq
  · have hm : (o, i) ∈ ops.toList.zipIdx := by
      rw [List.mem_zipIdx_iff_getElem?]; simpa using hi
    have := List.all_eq_true.1 (List.all_eq_true.1 h4 _ hm) j hj
    simpa [Nat.blt_eq] using this
  · simp only [Array.getD_eq_getD_getElem?, Array.getElem?_replicate] at hx
    split at hx <;> simp at hx
  · rw [hf]
    exact Nat.le_of_ble_eq_true h0
end
end Am
