/- Each operation: what the abstract machine asks of it, the model does. -/
import Derived.Test.YtoifckjdnldlpaaA5
set_option linter.unusedVariables false
set_option linter.unusedSimpArgs false
namespace Am
open Go

theorem addr_add (b o n : Nat) : (⟨b, o, none⟩ : Addr).add n = ⟨b, o + n, none⟩ := Addr.add_lit b o n
theorem getD_range (sz : Nat) (vs : Nat → Value) (j : Nat) (h : j < sz) : (((List.range sz).map vs).toArray).getD j undef = vs j := by
  simp [Array.getD_eq_getD_getElem?, h]
/-- A variable of a type is read. -/
theorem run_loadVar_f {P : Program} {t : TypeId} {ti : TyI} {i : TypeInfo} {z : Value} {d : TypeDesc} (F : TyF P t ti i z d) {w : World} {C : Cx} {b o : Nat} {cs : List AV} (vs : Nat → Value)
    (hl : ti.sz ≤ cs.length) (hc : ∀ j, j < cs.length → w.cell? ⟨b, o + j, none⟩ = some (vs j) ∧ one (vs j) = true) (hr : ∀ j, j < cs.length → Rep w C (g cs j) (vs j)) :
    ∃ v, (loadVar t ⟨b, o, none⟩).run P w = .ok v w ∧ (ti.agg = true → Rep w C (.agg (gets cs 0 ti.sz)) v ∧ Rep w C (.agg (cs.take ti.sz)) v) ∧ (ti.agg = false → Rep w C (g cs 0) v) := by
  cases ha : ti.agg with
  | true =>
    refine ⟨.agg ((List.range ti.sz).map vs).toArray, ?_, fun _ => ⟨.agg _ (by simp [gets_length]) (fun j hj => ?_) (fun j hj => ?_), .agg _ (by simp; omega) (fun j hj => ?_) (fun j hj => ?_)⟩, fun h => (by cases h)⟩
    · simp only [loadVar, Sem.run_bind, F.run_isAgg, ha, Result.andThen, if_true, F.run_sizeOf]
      rw [run_loadCells w ⟨b, o, none⟩ ti.sz vs (fun j hj => by rw [addr_add]; exact (hc j (by omega)).1)]
      rfl
    · rw [gets_length] at hj
      rw [getD_range _ _ _ hj]; exact (hc j (by omega)).2
    · rw [gets_length] at hj
      rw [getD_range _ _ _ hj, show (gets cs 0 ti.sz).getD j .any = g (gets cs 0 ti.sz) j from rfl, g_gets _ _ _ _ hj, Nat.zero_add]
      exact hr j (by omega)
    · have hj' : j < ti.sz := by simp at hj; omega
      rw [getD_range _ _ _ hj']; exact (hc j (by omega)).2
    · have hj' : j < ti.sz := by simp at hj; omega
      rw [getD_range _ _ _ hj']
      have : (cs.take ti.sz).getD j .any = g cs j := by simp [g, List.getD_eq_getElem?_getD, List.getElem?_take, hj']
      rw [this]; exact hr j (by omega)
  | false =>
    have h1 := F.sz1 ha
    refine ⟨vs 0, ?_, fun h => (by cases h), fun _ => hr 0 (by omega)⟩
    simp only [loadVar, Sem.run_bind, F.run_isAgg, ha, Result.andThen, Bool.false_eq_true, if_false, run_load]
    have := (hc 0 (by omega)).1
    rw [Nat.add_zero] at this
    rw [this]
theorem Rep.one {w : World} {C : Cx} {x : AV} {v : Value} (h : Rep w C x v) (hx : ∀ k : Prop, oneA x k → k) (hk : oneA x True) : Am.one v = true := by
  cases h <;> first
    | rfl
    | (exact one_plain ‹_›)
    | (exact (show False from hk).elim)
theorem oneA_elim {x : AV} {k : Prop} (h : oneA x k) : k ∧ oneA x True := by
  unfold oneA at *
  cases x <;> first | exact ⟨h, trivial⟩ | exact h.elim
theorem rep_one {w : World} {C : Cx} {x : AV} {v : Value} (h : Rep w C x v) (hk : oneA x True) : one v = true := by
  cases h <;> first
    | rfl
    | (exact one_plain ‹_›)
    | (exact (show False from hk).elim)
theorem cells_one {v : Value} (h : one v = true) : v.cells = #[v] := by cases v <;> first | rfl | cases h
/-- The cells of a value of a type. -/
theorem cellsK_elim {ti : TyI} {x : TV} {k : List AV → Prop} (h : cellsK ti x k) (h1 : ti.agg = false → ti.sz = 1) {w : World} {C : Cx} {β : Nat → Option Nat} {v : Value} (hv : TRep w C β x v) :
    ∃ cs, cs.length = ti.sz ∧ k cs ∧ v.cells.size = ti.sz ∧ ∀ j, j < ti.sz → one (v.cells.getD j undef) = true ∧ Rep w C (g cs j) (v.cells.getD j undef) := by
  unfold cellsK at h
  cases ha : ti.agg with
  | true =>
    rw [ha] at h
    cases x with
    | ag ds =>
      obtain ⟨h2, h3⟩ := exactK_elim h
      refine ⟨ds, h2, h3, ?_⟩
      have hv' : Rep w C (.agg ds) v := hv
      cases hv' with
      | agg vs hs h1' hr => exact ⟨by simp [Value.cells]; omega, fun j hj => ⟨h1' j (by omega), hr j (by omega)⟩⟩
    | av y =>
      have h' : aggA ti.sz y fun cs => k (gets cs 0 ti.sz) := h
      have hv' : Rep w C y v := hv
      unfold aggA at h'
      split at h'
      · rename_i cs
        obtain ⟨h2, h3⟩ := h'
        refine ⟨_, gets_length _ _ _, h3, ?_⟩
        cases hv' with
        | agg vs hs h1' hr =>
          refine ⟨by simp [Value.cells]; omega, fun j hj => ?_⟩
          simp only [Value.cells]
          rw [g_gets _ _ _ _ hj, Nat.zero_add]
          exact ⟨h1' j (by omega), hr j (by omega)⟩
      · cases h'
    | bl b => exact (show False from h).elim
    | loc u off => exact (show False from h).elim
    | und => exact (show False from h).elim
    | dead => exact (show False from h).elim
  | false =>
    rw [ha] at h
    have h1' := h1 ha
    have key : ∀ y, Rep w C y v → one v = true → k [y] → ∃ cs, cs.length = ti.sz ∧ k cs ∧ v.cells.size = ti.sz ∧ ∀ j, j < ti.sz → one (v.cells.getD j undef) = true ∧ Rep w C (g cs j) (v.cells.getD j undef) := by
      intro y hy ho hk
      refine ⟨[y], by simp [h1'], hk, by rw [cells_one ho]; simp [h1'], fun j hj => ?_⟩
      obtain rfl : j = 0 := by omega
      rw [cells_one ho]
      exact ⟨ho, hy⟩
    cases x with
    | ag ds => exact (show False from h).elim
    | av y =>
      have hv' : Rep w C y v := hv
      obtain ⟨h2, h3⟩ := oneA_elim h
      exact key y hv' (rep_one hv' h3) h2
    | bl b =>
      have hv' : v = .bool b := hv
      subst hv'
      exact key (B b) (.val rfl) rfl h
    | loc u off => exact (show False from h).elim
    | und => exact (show False from h).elim
    | dead => exact (show False from h).elim

/-! ### Operations -/
section
variable {P : Program} {cf : Cfg} {fz : Fz} {b : Base} {env : Env} {loc : Loc} {h : Heap} {a : Act} {w : World} {C : Cx} {β : Nat → Option Nat} {k : K} {o : Oper} {Q : Exit → Act → World → Prop}
/-- Where a state goes on: some state of the abstract machine for which k holds, what is frozen having stayed. -/
def Next (b : Base) (fz : Fz) (env : Env) (loc : Loc) (k : K) (a : Act) (w : World) : Prop :=
  ∃ env' loc' h' C' β', SR b env' loc' h' a w C' β' ∧ Kept fz env env' loc loc' ∧ k env' loc' h'
/-- An operation that hands back a value, the world having gone on. -/
theorem wp_val (H : SR b env loc h a w C β) {v : Value} {w' : World} {C' : Cx} {h' : Heap} {y : TV} (hr : (execOp a.eval o).run P w = .ok (.value v) w')
    (E : Ev w C h w' C' h') (hy : TRep w' C' β y v) (hl : ∀ u off, y = .loc u off → (lkp loc u).isSome) (hk : putK fz env o.dst y fun env => k env loc h') :
    Oper.wp P o a w (Next b fz env loc k) Q := by
  unfold Oper.wp
  rw [hr]
  obtain ⟨env', H', K', hk'⟩ := (H.step E).put hy hl hk
  exact ⟨env', loc, h', C', β, H', K', hk'⟩
theorem wp_same (H : SR b env loc h a w C β) {v : Value} {y : TV} (hr : (execOp a.eval o).run P w = .ok (.value v) w)
    (hy : TRep w C β y v) (hl : ∀ u off, y = .loc u off → (lkp loc u).isSome) (hk : putK fz env o.dst y fun env => k env loc h) :
    Oper.wp P o a w (Next b fz env loc k) Q := wp_val H hr (Ev.refl H.ev.rel) hy hl hk
theorem ev_lkey (H : SR b env loc h a w C β) (x : Operand) : ∀ u off, ev env x = .loc u off → (lkp loc u).isSome := by
  intro u off he
  cases x with
  | tmp t => exact H.lkey t u off he
  | const v =>
    have he' : cAV v = .loc u off := he
    unfold cAV at he'
    split at he'
    · cases he'
    · cases he'
    · split at he' <;> cases he'
  | func f => cases he
  | global g => cases he
theorem av_lkey {x : AV} : ∀ u off, TV.av x = .loc u off → (lkp loc u).isSome := fun _ _ h => by cases h
theorem op_move (H : SR b env loc h a w C β) {x : Operand} (ho : o.op = .move x ∨ o.op = .assign x) (hk : putK fz env o.dst (ev env x) fun env => k env loc h) : Oper.wp P o a w (Next b fz env loc k) Q := by
  refine wp_same H (v := a.eval x) ?_ (ev_rep H x) (ev_lkey H x) hk
  rcases ho with ho | ho <;> simp only [execOp, ho] <;> rfl
theorem brA_elim {c : AV} {A B' : Prop} {v : Value} (h : brA c A B') (hv : Rep w C c v) : (v = .bool true ∧ A) ∨ (v = .bool false ∧ B') := by
  unfold brA at h
  split at h
  · rename_i x
    cases hv with
    | val hp => cases x <;> first | exact .inl ⟨rfl, h.1 rfl⟩ | exact .inr ⟨rfl, h.2 rfl⟩
  · cases h
theorem op_pick (H : SR b env loc h a w C β) {c x y : Operand} (ho : o.op = .pick c x y) (hk : aop P cf fz o env loc h k) : Oper.wp P o a w (Next b fz env loc k) Q := by
  have hc := ev_rep H c
  simp only [aop, ho] at hk
  have go : ∀ t, a.eval c = .bool t → (putK fz env o.dst (ev env (if t then x else y)) fun env => k env loc h) → Oper.wp P o a w (Next b fz env loc k) Q := by
    intro t ht hk
    refine wp_same H (v := a.eval (if t then x else y)) ?_ (ev_rep H _) (ev_lkey H _) hk
    simp only [execOp, ho, ht, asBool, Sem.run_bind, Sem.run_pure, Result.andThen]
    cases t <;> rfl
  split at hk
  · rename_i hb; rw [hb] at hc; exact go true hc hk
  · rename_i hb; rw [hb] at hc; exact go false hc hk
  · rename_i v hb
    rw [hb] at hc
    rcases brA_elim hk hc with ⟨h1, h2⟩ | ⟨h1, h2⟩
    · exact go true h1 h2
    · exact go false h1 h2
  · exact (show False from hk).elim
end
end Am
