/- How a world goes on by a draw, a new block, a store into an own block. -/
import Derived.Test.YtoifckjdnldlpaaA4
set_option linter.unusedVariables false
set_option linter.unusedSimpArgs false
namespace Am
open Go

theorem rep_heap {w w' : World} {C : Cx} (hh : w'.heap = w.heap) {x : AV} {v : Value} (h : Rep w C x v) : Rep w' C x v :=
  h.mono (fun _ _ h => h) fun b hb => ⟨hb, by rw [hh]⟩
theorem ARel.mono {w w' : World} {C C' : Cx} {o : Own} {sz : Nat} {els : List (List AV)} (hr : ∀ x v, Rep w C x v → Rep w' C' x v) (hb : w'.heap[o.blk]? = w.heap[o.blk]?) (h : ARel w C o sz els) : ARel w' C' o sz els := by
  obtain ⟨h1, h2, h3, c, e, h4, h5, h6⟩ := h
  exact ⟨h1, h2, h3, c, e, by rw [hb]; exact h4, h5, fun i j hi hj => by obtain ⟨v, a, b, c⟩ := h6 i j hi hj; exact ⟨v, a, b, hr _ _ c⟩⟩
theorem NRel.mono {w w' : World} {C C' : Cx} {o : Own} {n : Node} (hr : ∀ x v, Rep w C x v → Rep w' C' x v) (hb : w'.heap[o.blk]? = w.heap[o.blk]?) (h : NRel w C o n) : NRel w' C' o n := by
  cases n with
  | arr sz els => exact ARel.mono hr hb h
  | map es =>
    obtain ⟨ms, h1, h2, h3⟩ := h
    exact ⟨ms, by rw [hb]; exact h1, h2, fun i hi => by obtain ⟨m, a, b, c, d⟩ := h3 i hi; exact ⟨m, a, b, hr _ _ c, hr _ _ d⟩⟩
  | iter id n left cur =>
    obtain ⟨b, seen, h1, h2, h3⟩ := h
    exact ⟨b, seen, hr _ _ h1, by rw [hb]; exact h2, h3⟩
theorem Ev.draw {w : World} {C : Cx} {h : Heap} (H : MRel w C h) (n : Nat) : Ev w C h { w with drawn := n } C h where
  mu _ _ h := h
  im _ h := h
  im' _ h := .inl h
  live' _ h := .inl h
  frame _ _ _ := rfl
  size := Nat.le_refl _
  os := rfl
  tape := rfl
  output := rfl
  rel := by
    have hr : ∀ x v, Rep w C x v → Rep { w with drawn := n } C x v := fun x v hr => Rep.mono (w := w) (w' := { w with drawn := n }) (fun _ _ h => h) (fun b hb => ⟨hb, rfl⟩) hr
    refine ⟨H.inj, fun id n hn => ?_, H.imlt, H.fresh⟩
    obtain ⟨o, h1, h2, h3⟩ := H.own id n hn
    exact ⟨o, h1, h2, NRel.mono hr rfl h3⟩
theorem alloc_size (w : World) (o : Obj) : (w.alloc o).heap.size = w.heap.size + 1 := Array.size_push _
theorem heap_push_lt (w : World) (o : Obj) {i : Nat} (h : i < w.heap.size) : (w.alloc o).heap[i]? = w.heap[i]? := by
  show (w.heap.push o)[i]? = _
  rw [Array.getElem?_push, if_neg (by omega)]
theorem heap_push_new (w : World) (o : Obj) : (w.alloc o).heap[w.heap.size]? = some o := by
  show (w.heap.push o)[w.heap.size]? = _
  simp
theorem Ev.alloc {w : World} {C : Cx} {h : Heap} (H : MRel w C h) (o : Obj) : Ev w C h (w.alloc o) C h where
  mu _ _ h := h
  im _ h := h
  im' _ h := .inl h
  live' _ h := .inl h
  frame b hb _ := heap_push_lt w o hb
  size := by rw [alloc_size]; omega
  os := rfl
  tape := rfl
  output := rfl
  rel := ⟨H.inj, fun id n hn => by
      obtain ⟨o', h1, h2, h3⟩ := H.own id n hn
      exact ⟨o', h1, h2, h3.mono (fun x v hr => hr.mono (fun _ _ h => h) fun b hb => ⟨hb, heap_push_lt w o (H.imlt b hb)⟩) (heap_push_lt w o h3.blk_lt)⟩,
    fun b hb => by have := H.imlt b hb; rw [alloc_size]; omega, H.fresh⟩
/-- A new own block. -/
theorem Ev.newOwn {w : World} {C : Cx} {h : Heap} (H : MRel w C h) {id : Nat} (hid : C.mu id = none) (hh : h id = none) (ob : Obj) (sz n : Nat) (nd : Node)
    (hN : ∀ C' : Cx, (∀ x v, Rep w C x v → Rep (w.alloc ob) C' x v) → NRel (w.alloc ob) C' ⟨w.heap.size, sz, n⟩ nd) :
    ∃ C', C'.mu id = some ⟨w.heap.size, sz, n⟩ ∧ C'.im = C.im ∧ Ev w C h (w.alloc ob) C' (h.set id nd) := by
  let C' : Cx := ⟨fun i => if i = id then some ⟨w.heap.size, sz, n⟩ else C.mu i, C.im⟩
  have hmu : ∀ i o, C.mu i = some o → C'.mu i = some o := fun i o ho => by
    have : i ≠ id := fun e => by rw [e, hid] at ho; cases ho
    show (if i = id then _ else _) = _
    rw [if_neg this]; exact ho
  have hmu' : ∀ i, i ≠ id → C'.mu i = C.mu i := fun i hi => if_neg hi
  have hmui : C'.mu id = some ⟨w.heap.size, sz, n⟩ := if_pos rfl
  have hrep : ∀ x v, Rep w C x v → Rep (w.alloc ob) C' x v := fun x v hr => hr.mono hmu fun b hb => ⟨hb, heap_push_lt w ob (H.imlt b hb)⟩
  refine ⟨C', hmui, rfl, ⟨hmu, fun _ h => h, fun _ h => .inl h, ?_, fun b hb _ => heap_push_lt w ob hb, by rw [alloc_size]; omega, rfl, rfl, rfl, ⟨?_, ?_, ?_, ?_⟩⟩⟩
  · rintro b ⟨i, nd', o, h1, h2, rfl⟩
    by_cases e : i = id
    · subst e; rw [hmui] at h2; cases h2; exact .inr (Nat.le_refl _)
    · rw [Heap.set_ne e] at h1; rw [hmu' i e] at h2; exact .inl ⟨i, nd', o, h1, h2, rfl⟩
  · intro i i' n1 n2 o1 o2 h1 h2 h3 h4 h5
    by_cases e : i = id
    · by_cases e' : i' = id
      · rw [e, e']
      · exfalso
        subst e; rw [hmui] at h3; cases h3
        rw [Heap.set_ne e'] at h2; rw [hmu' i' e'] at h4
        have := H.live_lt ⟨i', n2, o2, h2, h4, rfl⟩
        simp at h5; omega
    · by_cases e' : i' = id
      · exfalso
        subst e'; rw [hmui] at h4; cases h4
        rw [Heap.set_ne e] at h1; rw [hmu' i e] at h3
        have := H.live_lt ⟨i, n1, o1, h1, h3, rfl⟩
        simp at h5; omega
      · rw [Heap.set_ne e] at h1; rw [hmu' i e] at h3; rw [Heap.set_ne e'] at h2; rw [hmu' i' e'] at h4
        exact H.inj i i' n1 n2 o1 o2 h1 h2 h3 h4 h5
  · intro i nd' hn
    by_cases e : i = id
    · subst e
      rw [Heap.set_same] at hn; cases hn
      exact ⟨_, hmui, fun hi => by have := H.imlt _ hi; simp at this, hN C' hrep⟩
    · rw [Heap.set_ne e] at hn
      obtain ⟨o, h1, h2, h3⟩ := H.own i nd' hn
      exact ⟨o, by rw [hmu' i e]; exact h1, h2, h3.mono hrep (heap_push_lt w ob h3.blk_lt)⟩
  · intro b hb
    have := H.imlt b hb
    rw [alloc_size]; omega
  · obtain ⟨N, hN'⟩ := H.fresh
    refine ⟨max N (id + 1), fun i hi => ?_⟩
    have e : i ≠ id := by omega
    rw [hmu' i e, Heap.set_ne e]
    exact hN' i (by omega)
/-- What is own may be turned: the block of a live node takes another content. -/
theorem Ev.setOwn {w w' : World} {C : Cx} {h : Heap} (H : MRel w C h) {id : Nat} {nd nd' : Node} {o : Own} (hn : h id = some nd) (ho : C.mu id = some o)
    (hw : ∀ b, b ≠ o.blk → w'.heap[b]? = w.heap[b]?) (hs : w'.heap.size = w.heap.size) (hos : w'.os = w.os) (ht : w'.tape = w.tape) (hout : w'.output = w.output)
    (hN : (∀ x v, Rep w C x v → Rep w' C x v) → NRel w' C o nd') : Ev w C h w' C (h.set id nd') := by
  have hni : ¬ C.im o.blk := by
    obtain ⟨o', h1, h2, _⟩ := H.own id nd hn
    rw [ho] at h1; cases h1; exact h2
  have hrep : ∀ x v, Rep w C x v → Rep w' C x v := fun x v hr => hr.mono (fun _ _ h => h) fun b hb => ⟨hb, hw b (fun e => hni (e ▸ hb))⟩
  have hlive : ∀ b, Live C (h.set id nd') b → Live C h b := by
    rintro b ⟨i, n', o', h1, h2, rfl⟩
    by_cases e : i = id
    · subst e; exact ⟨i, nd, o', hn, h2, rfl⟩
    · rw [Heap.set_ne e] at h1; exact ⟨i, n', o', h1, h2, rfl⟩
  refine ⟨fun _ _ h => h, fun _ h => h, fun _ h => .inl h, fun b hb => .inl (hlive b hb), fun b hb hl => hw b (fun e => hl ⟨id, nd, o, hn, ho, e.symm⟩), by omega, hos, ht, hout, ⟨?_, ?_, ?_, ?_⟩⟩
  · intro i i' n1 n2 o1 o2 h1 h2 h3 h4 h5
    have a : ∃ n, h i = some n := by
      by_cases e : i = id
      · subst e; exact ⟨_, hn⟩
      · rw [Heap.set_ne e] at h1; exact ⟨_, h1⟩
    have b : ∃ n, h i' = some n := by
      by_cases e : i' = id
      · subst e; exact ⟨_, hn⟩
      · rw [Heap.set_ne e] at h2; exact ⟨_, h2⟩
    obtain ⟨n1', a⟩ := a
    obtain ⟨n2', b⟩ := b
    exact H.inj i i' n1' n2' o1 o2 a b h3 h4 h5
  · intro i n' h1
    by_cases e : i = id
    · subst e; rw [Heap.set_same] at h1; cases h1
      exact ⟨o, ho, hni, hN hrep⟩
    · rw [Heap.set_ne e] at h1
      obtain ⟨o', h2, h3, h4⟩ := H.own i n' h1
      refine ⟨o', h2, h3, h4.mono hrep (hw _ fun e' => e (H.inj i id n' nd o' o h1 hn h2 ho e'))⟩
  · intro b hb; rw [hs]; exact H.imlt b hb
  · obtain ⟨N, hN'⟩ := H.fresh
    refine ⟨max N (id + 1), fun i hi => ?_⟩
    have e : i ≠ id := by omega
    rw [Heap.set_ne e]; exact hN' i (by omega)
/-- An own block is forgotten. -/
theorem Ev.del {w : World} {C : Cx} {h : Heap} (H : MRel w C h) (id : Nat) : Ev w C h w C (h.del id) where
  mu _ _ h := h
  im _ h := h
  im' _ h := .inl h
  live' b hb := by
    obtain ⟨i, n, o, h1, h2, rfl⟩ := hb
    by_cases e : i = id
    · subst e; rw [Heap.del_same] at h1; cases h1
    · rw [Heap.del_ne e] at h1; exact .inl ⟨i, n, o, h1, h2, rfl⟩
  frame _ _ _ := rfl
  size := Nat.le_refl _
  os := rfl
  tape := rfl
  output := rfl
  rel := by
    have hd : ∀ i n, h.del id i = some n → h i = some n := fun i n hn => by
      by_cases e : i = id
      · subst e; rw [Heap.del_same] at hn; cases hn
      · rwa [Heap.del_ne e] at hn
    refine ⟨fun i i' n n' o o' h1 h2 => H.inj i i' n n' o o' (hd _ _ h1) (hd _ _ h2), fun i n h1 => H.own i n (hd _ _ h1), H.imlt, ?_⟩
    obtain ⟨N, hN⟩ := H.fresh
    refine ⟨N, fun i hi => ⟨(hN i hi).1, ?_⟩⟩
    cases hx : h.del id i with
    | none => rfl
    | some n => have h2 := hd i n hx; rw [(hN i hi).2] at h2; cases h2
end Am
