/- New variables; pointers, numbers, strings, lengths, literals. -/
import Derived.Test.YtoifckjdnldlpaaA7
set_option linter.unusedVariables false
set_option linter.unusedSimpArgs false
namespace Am
open Go
section
variable {P : Program} {cf : Cfg} {fz : Fz} {b : Base} {env : Env} {loc : Loc} {h : Heap} {a : Act} {w : World} {C : Cx} {β : Nat → Option Nat} {k : K} {o : Oper} {Q : Exit → Act → World → Prop}
theorem run_box_op {t : TypeId} {x : Operand} (ho : o.op = .box t x) : (execOp a.eval o).run P w = .ok (.value (.pointer (some ⟨w.heap.size, 0, none⟩))) (w.alloc (.cells (a.eval x).cells t)) := by
  simp only [execOp, ho, Instr.box, newVar, newRow, Sem.run_bind, run_newObj, Result.andThen, Sem.run_pure]; rfl
theorem run_alloc_op {t : TypeId} {ti : TyI} {i : TypeInfo} {z : Value} {d : TypeDesc} (F : TyF P t ti i z d) (ho : o.op = .alloc t) : (execOp a.eval o).run P w = .ok (.value (.pointer (some ⟨w.heap.size, 0, none⟩))) (w.alloc (.cells z.cells t)) := by
  simp only [execOp, ho, Instr.alloc, newVar, newRow, Sem.run_bind, F.run_zero, run_newObj, Result.andThen, Sem.run_pure]; rfl
/-- A new variable of this call. -/
theorem SR.newVar (H : SR b env loc h a w C β) (hfz : FzOk fz env) {dst : Option Tmp} {cs : List AV} {vs : Array Value} {e : TypeId} {k : Env → Loc → Prop} (hsz : vs.size = cs.length)
    (hvs : ∀ j, j < cs.length → one (vs.getD j undef) = true ∧ Rep w C (g cs j) (vs.getD j undef)) (hk : varK fz env loc dst cs k) :
    ∃ env' loc' β', SR b env' loc' h (a.put dst (.pointer (some ⟨w.heap.size, 0, none⟩))) (w.alloc (.cells vs e)) C β' ∧ Kept fz env env' loc loc' ∧ k env' loc' := by
  cases dst with
  | none => exact (show False from hk).elim
  | some d =>
    simp only [varK] at hk
    cases hm : may fz.t d with
    | false => rw [hm] at hk; exact (show False from hk).elim
    | true =>
      rw [hm] at hk
      simp only at hk
      cases hna : nmem fz.a d with
      | true => rw [hna] at hk; exact (show False from hk).elim
      | false =>
        rw [hna] at hk
        simp only [killK_eq, setK_eq, lsetK_eq] at hk
        have hnl : ∀ t, may fz.t t = false → ∀ u off, nth env t = .loc u off → u ≠ d := fun t ht u off he e => by
          have := hfz.1 t u off ht he
          rw [e] at this
          rw [(nmem_eq fz.a d).2 this] at hna; cases hna
        have E := Ev.alloc H.ev.rel (.cells vs e)
        have H1 := H.step E
        let β' : Nat → Option Nat := fun t => if t = d then some w.heap.size else β t
        have hβ : ∀ t, t ≠ d → β' t = β t := fun t ht => if_neg ht
        have hβd : β' d = some w.heap.size := if_pos rfl
        have hx : ¬ Live C h w.heap.size := fun hl => by have := H.ev.rel.live_lt hl; omega
        have hi : ¬ C.im w.heap.size := fun hl => by have := H.ev.rel.imlt _ hl; omega
        have hlt : ∀ t x cs', lkp loc t = some cs' → β t = some x → x < w.heap.size := fun t x cs' h1 h2 => by
          obtain ⟨x', h3, _, _, _, h4⟩ := H.vars t cs' h1
          rw [h2] at h3; cases h3; exact h4.lt
        refine ⟨_, _, β', ⟨H.dfr, ?_, fun t ht => ?_, fun t u off he => ?_, H1.ev, fun t cs' hcs => ?_, fun t t' cs1 cs2 x h1 h2 h3 h4 => ?_⟩, ⟨by simp, fun t ht => ?_, fun t ht => ?_, fun t ht => ?_, fun t cs' ht hcs => ?_⟩, hk⟩
        · simp [Act.put, H.len]
        · rw [nth_set]
          simp only [List.length_map, List.length_set] at ht ⊢
          by_cases hdt : d = t
          · subst hdt
            have ht2 : d < a.tmps.size := by rw [← H.len]; exact ht
            rw [if_pos ⟨rfl, ht⟩]
            refine ⟨w.heap.size, hβd, ?_⟩
            simp [Act.put, Array.getD_eq_getD_getElem?, Array.getElem?_setIfInBounds, ht2]
          · rw [if_neg (fun h => hdt h.1), nth_map_kill]
            have hv : (a.put (some d) (.pointer (some ⟨w.heap.size, 0, none⟩))).tmps.getD t undef = a.tmps.getD t undef := by
              simp [Act.put, Array.getD_eq_getD_getElem?, Array.getElem?_setIfInBounds, hdt]
            rw [hv]
            have h0 := H1.tmp t ht
            cases hn : nth env t with
            | loc u off =>
              rw [hn] at h0
              simp only [kill1]
              split
              · trivial
              · rename_i hu
                obtain ⟨x, h1, h2⟩ := h0
                exact ⟨x, by rw [hβ u hu]; exact h1, h2⟩
            | av x => rw [hn] at h0; exact h0
            | ag x => rw [hn] at h0; exact h0
            | bl x => rw [hn] at h0; exact h0
            | und => rw [hn] at h0; exact h0
            | dead => trivial
        · rw [nth_set, nth_map_kill] at he
          rw [lkp_lset]
          split at he
          · cases he; simp
          · cases hn : nth env t with
            | loc u' off' =>
              rw [hn] at he
              simp only [kill1] at he
              split at he
              · cases he
              · cases he
                have := H.lkey t u off hn
                split <;> simp_all
            | _ => rw [hn] at he; cases he
        · rw [lkp_lset] at hcs
          split at hcs
          · rename_i hdt
            cases hcs; subst hdt
            refine ⟨w.heap.size, hβd, H.ev.size, hi, hx, vs, e, heap_push_new w _, hsz, fun j hj => ?_⟩
            have hj' : j < vs.size := by omega
            refine ⟨vs.getD j undef, by simp [Array.getD_eq_getD_getElem?, hj'], (hvs j hj).1, E.rep H.ev.rel (hvs j hj).2⟩
          · rename_i hdt
            obtain ⟨x, h1, h2⟩ := H1.vars t cs' hcs
            exact ⟨x, by rw [hβ t (Ne.symm hdt)]; exact h1, h2⟩
        · rw [lkp_lset] at h1 h2
          by_cases e1 : d = t
          · by_cases e2 : d = t'
            · rw [← e1, ← e2]
            · exfalso
              subst e1
              rw [hβd] at h3; cases h3
              rw [if_neg e2] at h2; rw [hβ t' (Ne.symm e2)] at h4
              have := hlt t' _ _ h2 h4; omega
          · by_cases e2 : d = t'
            · exfalso
              subst e2
              rw [hβd] at h4; cases h4
              rw [if_neg e1] at h1; rw [hβ t (Ne.symm e1)] at h3
              have := hlt t _ _ h1 h3; omega
            · rw [if_neg e1] at h1; rw [if_neg e2] at h2
              rw [hβ t (Ne.symm e1)] at h3; rw [hβ t' (Ne.symm e2)] at h4
              exact H.linj t t' cs1 cs2 x h1 h2 h3 h4
        · rw [nth_set, if_neg (fun h => by rw [h.1, ht] at hm; cases hm), nth_map_kill]
          cases hn : nth env t with
          | loc u off => simp only [kill1]; rw [if_neg (hnl t ht u off hn)]
          | _ => rfl
        · rw [lkp_lset, if_neg (fun e => by subst e; rw [(nmem_eq fz.a d).2 (hfz.2 d ht)] at hna; cases hna)]
        · rw [lkp_lset]; split <;> simp_all
        · rw [lkp_lset, if_neg (fun e => by subst e; rw [(nmem_eq fz.a d).2 ht] at hna; cases hna)]
          exact ⟨cs', hcs, rfl⟩
theorem kill_pred (P' : Prop) : P' → P' := id
/-- A new own block of one element. -/
theorem newA_elim (H : SR b env loc h a w C β) {sz : Nat} {cs : List AV} {k : AV → Heap → Prop} (hk : newA sz cs h k) {vs : Array Value} {e : TypeId} (hcl : cs.length = sz) (hsz : vs.size = sz)
    (hvs : ∀ j, j < sz → one (vs.getD j undef) = true ∧ Rep w C (g cs j) (vs.getD j undef)) :
    ∃ p h' C', Ev w C h (w.alloc (.cells vs e)) C' h' ∧ Rep (w.alloc (.cells vs e)) C' p (.pointer (some ⟨w.heap.size, 0, none⟩)) ∧ k p h' := by
  obtain ⟨N, hN⟩ := H.ev.rel.fresh
  obtain ⟨h1, h2⟩ := hN N (Nat.le_refl _)
  obtain ⟨C', h3, h4, E⟩ := Ev.newOwn H.ev.rel h1 h2 (.cells vs e) sz vs.size (.arr sz [cs]) fun C' hrep => by
    refine ⟨rfl, fun i hi => ?_, by simp [hsz], vs, e, heap_push_new w _, rfl, fun i j hi hj => ?_⟩
    · simp at hi; subst hi; simpa using hcl
    · simp at hi; subst hi
      have hj' : j < vs.size := by omega
      exact ⟨vs.getD j undef, by simp [Array.getD_eq_getD_getElem?, hj'], (hvs j hj).1, hrep _ _ (by simpa [g] using (hvs j hj).2)⟩
  exact ⟨_, _, C', E, by simpa using (Rep.op (w := w.alloc (.cells vs e)) (ix := 0) (off := 0) h3), hk N h2⟩
theorem op_box (HT : TabOk P cf) (H : SR b env loc h a w C β) (hfz : FzOk fz env) {t : TypeId} {x : Operand} (ho : o.op = .box t x) (hty : opTy cf o = true) (hk : aop P cf fz o env loc h k) : Oper.wp P o a w (Next b fz env loc k) Q := by
  have hty' : pos (cf.ty t).sz = true := by simpa [opTy, ho] using hty
  obtain ⟨i, z, d, F⟩ := tyCheck_f (HT.2 t hty')
  have hx := ev_rep H x
  simp only [aop, ho] at hk
  obtain ⟨cs, hcl, hk, hcs, hcr⟩ := cellsK_elim hk F.sz1 hx
  split at hk
  · obtain ⟨p, h', C', E, hp, hk⟩ := newA_elim H hk (e := t) hcl hcs hcr
    exact wp_val H (run_box_op ho) E (y := .av p) hp av_lkey hk
  · obtain ⟨env', loc', β', H', K', hk'⟩ := H.newVar hfz (e := t) (vs := (a.eval x).cells) (by rw [hcs, hcl]) (fun j hj => hcr j (by omega)) (varC_elim hk)
    unfold Oper.wp
    rw [run_box_op ho]
    exact ⟨env', loc', h, C, β', H', K', hk'⟩
theorem op_alloc (HT : TabOk P cf) (H : SR b env loc h a w C β) (hfz : FzOk fz env) {t : TypeId} (ho : o.op = .alloc t) (hty : opTy cf o = true) (hk : aop P cf fz o env loc h k) : Oper.wp P o a w (Next b fz env loc k) Q := by
  have hty' : pos (cf.ty t).sz = true := by simpa [opTy, ho] using hty
  obtain ⟨i, z, d, F⟩ := tyCheck_f (HT.2 t hty')
  simp only [aop, ho] at hk
  have hz : ∀ j, j < (cf.ty t).sz → one (z.cells.getD j undef) = true ∧ Rep w C (g (cf.ty t).zero j) (z.cells.getD j undef) := fun j hj => (F.zcells j hj).symm
  split at hk
  · obtain ⟨p, h', C', E, hp, hk⟩ := newA_elim H hk (e := t) F.zlen F.zsize hz
    exact wp_val H (run_alloc_op F ho) E (y := .av p) hp av_lkey hk
  · obtain ⟨env', loc', β', H', K', hk'⟩ := H.newVar hfz (e := t) (vs := z.cells) (by rw [F.zsize, F.zlen]) (fun j hj => hz j (by rw [← F.zlen]; exact hj)) (varC_elim hk)
    unfold Oper.wp
    rw [run_alloc_op F ho]
    exact ⟨env', loc', h, C, β', H', K', hk'⟩
theorem op_nil (H : SR b env loc h a w C β) {x : Operand} (ho : o.op = .nilCheck x) (hk : aop P cf fz o env loc h k) : Oper.wp P o a w (Next b fz env loc k) Q := by
  have hx := ev_rep H x
  have hl := ev_lkey H x
  simp only [aop, ho] at hk
  split at hk
  · rename_i t off he
    rw [he] at hx
    have hx0 := hx
    obtain ⟨x0, h1, h2⟩ := hx
    refine wp_same H (v := a.eval x) ?_ (y := .loc t off) hx0 (fun u o' e => by cases e; exact hl t off he) hk
    simp [execOp, ho, h2]
  · rename_i v he
    rw [he] at hx
    have hx' : Rep w C v (a.eval x) := hx
    unfold nilA at hk
    split at hk <;> first
      | (refine wp_same H (v := a.eval x) ?_ (y := .av _) hx av_lkey hk
         generalize hv : a.eval x = va at hx'
         cases hx' <;> simp [execOp, ho, hv])
      | (cases hk)
  · exact (show False from hk).elim
theorem run_field_op {t : TypeId} {ti : TyI} {i : TypeInfo} {z : Value} {d : TypeDesc} (F : TyF P t ti i z d) (hty : pos ti.sz = true) {f : Nat} {x : Operand} {bb off : Nat} (ho : o.op = .fieldAddr t x f) (harr : ti.arr = false) (hf : f < ti.flds.length)
    {ft : TyI} {fi : TypeInfo} {fz' : Value} {fd : TypeDesc} (FF' : TyF P (ti.flds.getD f (0, 0)).2 ft fi fz' fd) (hpos : pos ft.sz = true) (hx : a.eval x = .pointer (some ⟨bb, off, none⟩)) :
    (execOp a.eval o).run P w = .ok (.value (.pointer (some ⟨bb, off + (ti.flds.getD f (0, 0)).1, none⟩))) w := by
  have hd := F.desc
  have hu := F.und
  cases d with
  | struct fs =>
    simp only [descCk, Bool.and_eq_true, beq_iff_eq, List.all_eq_true, List.mem_range] at hd
    have hff := hd.1.2 f (by omega)
    unfold fldCk at hff
    cases hfs : fs[f]? with
    | none => rw [hfs] at hff; cases hff
    | some fl =>
      rw [hfs] at hff
      simp only [Bool.and_eq_true, beq_iff_eq] at hff
      have hsz : (Go.sizeOf fl.type).run P w = .ok ft.sz w := by rw [hff.1.2]; exact FF'.run_sizeOf w
      have hne : ft.sz ≠ 0 := fun e => by rw [e] at hpos; cases hpos
      simp only [execOp, ho, Instr.fieldAt, Instr.sureAddr, hx, Sem.run_bind, run_underlying hu, Result.andThen, hfs, Sem.run_pure, fieldPlace, hsz]
      rw [if_neg hne]
      simp only [Sem.run_pure, Result.andThen, addr_add, hff.1.1]
  | _ => simp_all [descCk]
end
end Am
