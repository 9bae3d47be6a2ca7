/- make, slices cut, append. -/
import Derived.Test.YtoifckjdnldlpaaB3
set_option linter.unusedVariables false
set_option linter.unusedSimpArgs false
namespace Am
open Go
section
variable {P : Program} {cf : Cfg} {fz : Fz} {b : Base} {env : Env} {loc : Loc} {h : Heap} {a : Act} {w : World} {C : Cx} {β : Nat → Option Nat} {k : K} {o : Oper} {Q : Exit → Act → World → Prop}
theorem mkA_elim {sz bytes : Nat} {zero : List AV} {n c : AV} {k : AV → Heap → Prop} (hk : mkA sz bytes zero n c h k) : ∃ m : Int, n = I m ∧ c = I m ∧ 0 ≤ m ∧ m * bytes ≤ 140737488355328 ∧ ∀ id, h id = none → k (.os id m.toNat) (h.set id (.arr sz (List.replicate m.toNat zero))) := by
  unfold mkA at hk
  split at hk
  · obtain ⟨rfl, h1, h2, h3⟩ := hk
    exact ⟨_, rfl, rfl, h1, h2, h3⟩
  · cases hk
theorem madeCells_get (z : Array Value) (n j : Nat) (hz : 0 < z.size) (hj : j < n) : (madeCells z n)[j]? = some (z.getD (j % z.size) undef) := by
  have hm : j % z.size < z.size := Nat.mod_lt _ hz
  simp [madeCells, hj, Array.getD_eq_getD_getElem?, hm]
theorem op_makeSlice (HT : TabOk P cf) (H : SR b env loc h a w C β) {t : TypeId} {n c : Operand} (ho : o.op = .makeSlice t n c) (hty : opTy cf o = true) (hk : aop P cf fz o env loc h k) : Oper.wp P o a w (Next b fz env loc k) Q := by
  simp only [opTy, ho, both_eq] at hty
  obtain ⟨hp1, hp2, hp3⟩ := hty
  obtain ⟨i, z, d, F⟩ := tyCheck_f (HT.2 t hp1)
  obtain ⟨ie, ze, de, FE⟩ := tyCheck_f (HT.2 _ hp2)
  have hu := F.slice HT hp2
  have hsz := pos_lt hp2
  have hby := pos_lt hp3
  simp only [aop, ho] at hk
  obtain ⟨nv, hn, hk⟩ := asAV_rep H hk
  obtain ⟨cv, hc, hk⟩ := asAV_rep H hk
  obtain ⟨m, rfl, rfl, h0, hb, hk⟩ := mkA_elim hk
  have hn' := rep_val hn
  have hc' := rep_val hc
  have hm : m ≤ 140737488355328 := by
    have h1 : m * 1 ≤ m * (cf.ty (cf.ty t).elem).bytes := Int.mul_le_mul_of_nonneg_left (by omega) h0
    omega
  have hrun := run_make w t (cf.ty t).elem ie ze hu FE.info FE.zero .i64 .i64 m m h0 (Int.le_refl _) (by rw [FE.bytes, Int.mul_comm]; omega) (by omega)
  obtain ⟨N, hN⟩ := H.ev.rel.fresh
  obtain ⟨h1, h2⟩ := hN N (Nat.le_refl _)
  obtain ⟨C', h3, h4, E⟩ := Ev.newOwn H.ev.rel h1 h2 (.cells (madeCells ze.cells (m.toNat * ie.size)) (cf.ty t).elem) (cf.ty (cf.ty t).elem).sz (m.toNat * ie.size) (.arr (cf.ty (cf.ty t).elem).sz (List.replicate m.toNat (cf.ty (cf.ty t).elem).zero)) fun C' hrep => by
    refine ⟨rfl, fun i hi => ?_, by simp [FE.size], _, _, heap_push_new w _, size_madeCells _ _, fun i j hi hj => ?_⟩
    · simp only [List.length_replicate] at hi
      simp [List.getD_eq_getElem?_getD, List.getElem?_replicate, hi, FE.zlen]
    · simp only [List.length_replicate] at hi
      have hlt : i * (cf.ty (cf.ty t).elem).sz + j < m.toNat * ie.size := by
        rw [FE.size]
        have : (i + 1) * (cf.ty (cf.ty t).elem).sz ≤ m.toNat * (cf.ty (cf.ty t).elem).sz := Nat.mul_le_mul_right _ hi
        rw [Nat.add_mul, Nat.one_mul] at this
        omega
      have hmod : (i * (cf.ty (cf.ty t).elem).sz + j) % ze.cells.size = j := by rw [FE.zsize, Nat.mul_comm, Nat.mul_add_mod, Nat.mod_eq_of_lt hj]
      refine ⟨_, madeCells_get _ _ _ (by rw [FE.zsize]; exact hsz) hlt, ?_, ?_⟩
      · rw [hmod]; exact (FE.zcells (w := w) (C := C) j hj).2
      · rw [hmod]
        have := (FE.zcells (w := w.alloc (.cells (madeCells ze.cells (m.toNat * ie.size)) (cf.ty t).elem)) (C := C') j hj).1
        simpa [List.getD_eq_getElem?_getD, List.getElem?_replicate, hi, g] using this
  refine wp_val H (v := .slice (some ⟨w.heap.size, 0, none⟩) m.toNat m.toNat) ?_ E (y := .av _) ?_ av_lkey (hk N h2)
  · simp only [execOp, ho, hn', hc', Sem.run_bind, hrun, Result.andThen]; rfl
  · exact Rep.os h3 (Nat.le_refl _) (by rw [FE.size]; exact Nat.le_refl _)
theorem op_makeFunc (H : SR b env loc h a w C β) {f : FuncId} {first caps : Array Operand} (ho : o.op = .makeFunc (.func f) first caps) (hk : aop P cf fz o env loc h k) : Oper.wp P o a w (Next b fz env loc k) Q := by
  simp only [aop, ho] at hk
  split at hk
  case h_2 => exact (show False from hk).elim
  rename_i hf
  have hf' : first = #[] := Array.eq_empty_of_size_eq_zero hf
  subst hf'
  obtain ⟨vs, h1, h2, hk⟩ := asAVs_elim hk
  refine wp_same H (v := .func (.func f) #[] (caps.map a.eval)) ?_ (y := .av _) ?_ av_lkey hk
  · simp [execOp, ho, Instr.makeFunc]
  · refine Rep.fn _ (by simp [h1]) (fun j hj => ?_)
    have hj' : j < caps.size := by simp at h1; omega
    have h3 := h2 j (by simpa using hj')
    have h4 := ev_rep H (caps[j])
    have e1 : nth (caps.toList.map (ev env)) j = ev env caps[j] := by simp [nth_eq, List.getD_eq_getElem?_getD, hj']
    rw [e1] at h3
    have e2 : (caps.map a.eval).getD j undef = a.eval caps[j] := by simp [Array.getD_eq_getD_getElem?, hj']
    rw [e2]
    exact h4.asV h3
end
end Am
