/- Slices made, cut and appended to. -/
import Derived.Test.YtoifckjdnldlpaaB2
set_option linter.unusedVariables false
set_option linter.unusedSimpArgs false
namespace Am
open Go
theorem both_eq {a b : Bool} : both a b = true ↔ a = true ∧ b = true := by cases a <;> simp [both]
theorem pos_lt {n : Nat} (h : pos n = true) : 0 < n := by cases n with | zero => cases h | succ n => omega
theorem dense_eq (f : Operand → Value) : ∀ {l : List (Nat × Operand)} {n : Nat}, denseB l n = true → l.map (fun p => (p.1, f p.2)) = ((l.map fun p => f p.2).zipIdx n).map fun x => (x.2, x.1)
  | [], _, _ => rfl
  | x :: l, n, h => by
    have h' : (match Nat.beq x.1 n with | true => denseB l (n + 1) | false => false) = true := h
    cases hb : Nat.beq x.1 n with
    | false => rw [hb] at h'; cases h'
    | true =>
      rw [hb] at h'
      have := dense_eq f h'
      simp only [List.map_cons, List.zipIdx_cons]
      rw [← this, nbeq.1 hb]
/-- A new immutable block. -/
theorem Ev.newIm {w : World} {C : Cx} {h : Heap} (H : MRel w C h) (ob : Obj) : ∃ C' : Cx, C'.im w.heap.size ∧ C'.mu = C.mu ∧ Ev w C h (w.alloc ob) C' h := by
  let C' : Cx := ⟨C.mu, fun b => C.im b ∨ b = w.heap.size⟩
  have hrep : ∀ x v, Rep w C x v → Rep (w.alloc ob) C' x v := fun x v hr => Rep.mono (w := w) (w' := w.alloc ob) (C := C) (C' := C') (fun _ _ h => h) (fun b hb => ⟨Or.inl hb, heap_push_lt w ob (H.imlt b hb)⟩) hr
  refine ⟨C', Or.inr rfl, rfl, ⟨fun _ _ h => h, fun _ h => Or.inl h, fun b hb => ?_, fun b hb => Or.inl hb, fun b hb _ => heap_push_lt w ob hb, by rw [alloc_size]; omega, rfl, rfl, rfl, ⟨H.inj, fun id n hn => ?_, fun b hb => ?_, H.fresh⟩⟩⟩
  · rcases hb with hb | rfl
    · exact .inl hb
    · exact .inr (.inr (Nat.le_refl _))
  · obtain ⟨o, h1, h2, h3⟩ := H.own id n hn
    refine ⟨o, h1, ?_, h3.mono hrep (heap_push_lt w ob h3.blk_lt)⟩
    rintro (hi | hi)
    · exact h2 hi
    · have := h3.blk_lt; omega
  · rw [alloc_size]
    rcases hb with hb | rfl
    · have := H.imlt b hb; omega
    · omega
section
variable {P : Program} {cf : Cfg} {fz : Fz} {b : Base} {env : Env} {loc : Loc} {h : Heap} {a : Act} {w : World} {C : Cx} {β : Nat → Option Nat} {k : K} {o : Oper} {Q : Exit → Act → World → Prop}
theorem cellsKs_elim (H : SR b env loc h a w C β) {ti : TyI} (h1 : ti.agg = false → ti.sz = 1) : ∀ {xs : List Operand} {k : List (List AV) → Prop}, cellsKs ti (xs.map (ev env)) k →
    ∃ els, els.length = xs.length ∧ k els ∧ ∀ i (hi : i < xs.length), (els.getD i []).length = ti.sz ∧ CRel w C (els.getD i []) (a.eval xs[i]).cells
  | [], k, hk => ⟨[], rfl, hk, by simp⟩
  | x :: xs, k, hk => by
    obtain ⟨cs, h2, hk, h3, h4⟩ := cellsK_elim hk h1 (ev_rep H x)
    obtain ⟨els, h5, h6, h7⟩ := cellsKs_elim H h1 hk
    refine ⟨cs :: els, by simp [h5], h6, fun i hi => ?_⟩
    cases i with
    | zero => exact ⟨h2, by show (a.eval x).cells.size = cs.length; rw [h3, h2], fun j hj => h4 j (by have hj' : j < cs.length := hj; omega)⟩
    | succ i => exact h7 i (by simpa using hi)
theorem op_buildSlice (HT : TabOk P cf) (H : SR b env loc h a w C β) {t : TypeId} {n : Nat} {parts : Array (Nat × Operand)} (ho : o.op = .buildSlice t n parts) (hty : opTy cf o = true) (hk : aop P cf fz o env loc h k) : Oper.wp P o a w (Next b fz env loc k) Q := by
  simp only [opTy, ho, both_eq] at hty
  obtain ⟨hp1, hp2, hp3, hp4⟩ := hty
  obtain ⟨i, z, d, F⟩ := tyCheck_f (HT.2 t hp1)
  obtain ⟨ie, ze, de, FE⟩ := tyCheck_f (HT.2 _ hp2)
  have hu := F.slice HT hp2
  have hsz := pos_lt hp2
  simp only [aop, ho] at hk
  split at hk
  case h_2 => exact (show False from hk).elim
  rename_i hn
  have hn := nbeq.1 hn
  have hpm : (parts.map fun (i, x) => (i, a.eval x)).toList = ((parts.toList.map fun p => a.eval p.2).zipIdx 0).map fun x => (x.2, x.1) := by
    rw [Array.toList_map]; exact dense_eq a.eval hp4
  split at hk
  · -- none
    have hsize : parts.size = 0 := hn.symm
    have : parts = #[] := Array.eq_empty_of_size_eq_zero hsize
    subst this
    have E := Ev.alloc H.ev.rel (.cells #[] (cf.ty t).elem)
    refine wp_val H (v := .slice (some ⟨w.heap.size, 0, none⟩) 0 0) ?_ E (y := .av .e0) .e0 av_lkey hk
    simp [execOp, ho, Instr.buildSlice, run_underlying hu, FE.run_sizeOf, Instr.fill, newRow]
    rw [show (Array.range 0) = #[] from by simp [Array.range]]; simp
  · have hlen : 0 < n := Nat.pos_of_ne_zero (by assumption)
    rw [show (parts.toList.map fun p => ev env p.2) = (parts.toList.map (·.2)).map (ev env) from by simp] at hk
    obtain ⟨els, h1, hk, h2⟩ := cellsKs_elim H FE.sz1 hk
    simp only [List.length_map, Array.length_toList] at h1 h2
    have hels : els.length = n := by omega
    have hvs : ∀ v ∈ (parts.toList.map fun p => a.eval p.2), v.cells.size = (cf.ty (cf.ty t).elem).sz := fun v hv => by
      obtain ⟨j, hj, rfl⟩ := List.getElem_of_mem hv
      have hj' : j < parts.size := by simpa using hj
      obtain ⟨h3, h4⟩ := h2 j hj'
      have := h4.1
      simp only [List.getElem_map] at this ⊢
      rw [this, h3]
    have hnsz : n * ie.size = n * (cf.ty (cf.ty t).elem).sz := by rw [FE.size]
    have hfill := Great.fill_whole hsz (parts.toList.map fun p => a.eval p.2) ((Array.range (n * ie.size)).map (ze.cells[· % ze.cells.size]!)) hvs (by simp [hnsz, hn, FE.size])
    rw [← hpm, ← FE.size] at hfill
    have hsm : ¬ n * ie.size > 2 ^ 24 := by rw [hnsz]; have := Nat.le_of_ble_eq_true hp3; omega
    have hpz : ¬ n * ie.size = 0 := by rw [hnsz]; have := Nat.mul_pos hlen hsz; omega
    have hrun := run_buildSlice w t (cf.ty t).elem n (parts.map fun (i, x) => (i, a.eval x)) _ ie ze hu FE.info FE.zero hsm hpz hfill
    obtain ⟨C', hi, hmu, E⟩ := Ev.newIm H.ev.rel (.cells ((parts.toList.map fun p => a.eval p.2).flatMap fun v => v.cells.toList).toArray (cf.ty t).elem)
    have hg := heap_push_new w (.cells ((parts.toList.map fun p => a.eval p.2).flatMap fun v => v.cells.toList).toArray (cf.ty t).elem)
    have hcell : ∀ i j, i < els.length → j < (cf.ty (cf.ty t).elem).sz → ∃ v, ((parts.toList.map fun p => a.eval p.2).flatMap fun v => v.cells.toList)[i * (cf.ty (cf.ty t).elem).sz + j]? = some v ∧ one v = true ∧ Rep w C (g (els.getD i []) j) v := by
      intro i j hi hj
      obtain ⟨h3, h4, h5⟩ := h2 i (by omega)
      have e1 : (i * (cf.ty (cf.ty t).elem).sz + j) / (cf.ty (cf.ty t).elem).sz = i := by rw [Nat.mul_comm, Nat.mul_add_div hsz, Nat.div_eq_of_lt hj]; omega
      have e2 : (i * (cf.ty (cf.ty t).elem).sz + j) % (cf.ty (cf.ty t).elem).sz = j := by rw [Nat.mul_comm, Nat.mul_add_mod, Nat.mod_eq_of_lt hj]
      have hip : i < parts.size := by omega
      simp only [List.getElem_map] at h4 h5
      obtain ⟨h6, h7⟩ := h5 j (by omega)
      have hjs : j < (a.eval (parts.toList[i]'(by simpa using hip)).2).cells.size := by omega
      refine ⟨(a.eval (parts.toList[i]'(by simpa using hip)).2).cells.getD j undef, ?_, h6, h7⟩
      rw [Great.flat_get hsz _ hvs, e1, e2]
      have hip' : i < parts.toList.length := by simpa using hip
      rw [List.getElem?_map, List.getElem?_eq_getElem hip']
      simp only [Option.map_some, Option.bind_some, Array.getD_eq_getD_getElem?, Array.getElem?_eq_getElem hjs, Option.getD_some]
    refine wp_val H (v := .slice (some ⟨w.heap.size, 0, none⟩) n n) ?_ E (y := .av _) ?_ av_lkey hk
    · simp only [execOp, ho, Sem.run_bind, hrun, Result.andThen]; rfl
    · show Rep _ _ _ _
      rw [← hels]
      refine Rep.rs (fun i j => ((parts.toList.map fun p => a.eval p.2).flatMap fun v => v.cells.toList).getD (i * (cf.ty (cf.ty t).elem).sz + j) undef) hi (Nat.le_refl _) (fun i hi => (h2 i (by omega)).1) (fun i j hi hj => ?_) (fun i j hi hj => ?_)
      · obtain ⟨v, h3, h4, h5⟩ := hcell i j hi hj
        rw [cell_at hg, Nat.zero_add]
        simp only [List.getElem?_toArray, List.getD_eq_getElem?_getD]
        rw [h3]
        exact ⟨rfl, h4⟩
      · obtain ⟨v, h3, h4, h5⟩ := hcell i j hi hj
        simp only [h3, List.getD_eq_getElem?_getD, Option.getD_some]
        have := E.rep H.ev.rel h5
        simpa [g, List.getD_eq_getElem?_getD] using this
end
end Am
