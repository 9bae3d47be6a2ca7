/- Weakening is sound; calls. -/
import Derived.Test.YtoifckjdnldlpaaB6
set_option linter.unusedVariables false
set_option linter.unusedSimpArgs false
namespace Am
open Go
section
variable {P : Program} {cf : Cfg} {fz : Fz} {b : Base} {env : Env} {loc : Loc} {h : Heap} {a : Act} {w : World} {C : Cx} {β : Nat → Option Nat} {k : K} {o : Oper} {Q : Exit → Act → World → Prop}
/-- The blocks that the weakening makes immutable. -/
def Dropped (C : Cx) (h h' : Heap) (b : Nat) : Prop := ∃ id n o, h id = some n ∧ h' id = none ∧ C.mu id = some o ∧ o.blk = b
def Cx.drop (C : Cx) (h h' : Heap) : Cx := ⟨C.mu, fun b => C.im b ∨ Dropped C h h' b⟩
theorem Rep.drop {h' : Heap} {x : AV} {v : Value} (hr : Rep w C x v) : Rep w (C.drop h h') x v := Rep.mono (w := w) (w' := w) (C := C) (C' := C.drop h h') (fun _ _ h => h) (fun b hb => ⟨Or.inl hb, rfl⟩) hr
theorem Ref.sound {h' : Heap} (H : MRel w C h) {x y : AV} (hr : Ref h h' x y) : ∀ {v : Value}, Rep w C x v → Rep w (C.drop h h') y v := by
  induction hr with
  | refl => exact fun hv => hv.drop
  | any => exact fun _ => .any
  | e0 => intro v hv; cases hv; exact .rs0
  | @rs sz els els' hl hz hr ih =>
    intro v hv
    cases hv with
    | rs0 =>
      have : els' = [] := List.eq_nil_of_length_eq_zero (by simpa using hl)
      rw [this]; exact .rs0
    | rs vs him hcap hsz hc hrr =>
      rw [← hl]
      refine Rep.rs vs (.inl him) (by omega) (fun i hi => hz i (by omega)) (fun i j hi hj => hc i j (by omega) hj) (fun i j hi hj => ?_)
      exact ih i j (by omega) hj (hrr i j (by omega) hj)
  | @agg cs cs' hl hr ih =>
    intro v hv
    cases hv with
    | agg vs hs h1 hrr => exact Rep.agg vs (by omega) (fun j hj => h1 j (by omega)) (fun j hj => ih j (by omega) (hrr j (by omega)))
  | @tup cs cs' hl hr ih =>
    intro v hv
    cases hv with
    | tup vs hs hrr => exact Rep.tup vs (by omega) (fun j hj => ih j (by omega) (hrr j (by omega)))
  | @frz id sz els len els' hh hn hle hl hz hr ih =>
    intro v hv
    cases hv with
    | @os _ _ cap ow hm hcap hcn =>
      obtain ⟨o', hm', hni, h1, h2, h3, c, e, h4, h5, h6⟩ := H.own _ _ hh
      rw [hm] at hm'; cases hm'
      rw [← hl]
      have key : ∀ i j, i < len → j < sz → c[i * sz + j]? = some (c.getD (i * sz + j) undef) ∧ one (c.getD (i * sz + j) undef) = true ∧ Rep w C (g (els.getD i []) j) (c.getD (i * sz + j) undef) := fun i j hi hj => by
        obtain ⟨v, a1, a2, a3⟩ := h6 i j (by omega) hj
        have : c.getD (i * sz + j) undef = v := by simp [Array.getD_eq_getD_getElem?, a1]
        rw [this]; exact ⟨a1, a2, a3⟩
      refine Rep.rs (fun i j => c.getD (i * sz + j) undef) (.inr ⟨id, _, _, hh, hn, hm, rfl⟩) (by omega) (fun i hi => hz i (by omega)) (fun i j hi hj => ?_) (fun i j hi hj => ih i j (by omega) hj (key i j (by omega) hj).2.2)
      rw [Nat.zero_add, cell_at h4]
      exact ⟨(key i j (by omega) hj).1, (key i j (by omega) hj).2.1⟩
  | @fro id sz els ix off cs hh hn hi hl hr ih =>
    intro v hv
    cases hv with
    | @op _ _ _ ow hm =>
      obtain ⟨o', hm', hni, h1, h2, h3, c, e, h4, h5, h6⟩ := H.own _ _ hh
      rw [hm] at hm'; cases hm'
      have key : ∀ j, j < cs.length → c[ix * sz + (off + j)]? = some (c.getD (ix * sz + (off + j)) undef) ∧ one (c.getD (ix * sz + (off + j)) undef) = true ∧ Rep w C (g (els.getD ix []) (off + j)) (c.getD (ix * sz + (off + j)) undef) := fun j hj => by
        obtain ⟨v, a1, a2, a3⟩ := h6 ix (off + j) hi (by omega)
        have : c.getD (ix * sz + (off + j)) undef = v := by simp [Array.getD_eq_getD_getElem?, a1]
        rw [this]; exact ⟨a1, a2, a3⟩
      refine Rep.ro (fun j => c.getD (ix * sz + (off + j)) undef) (.inr ⟨id, _, _, hh, hn, hm, rfl⟩) (fun j hj => ?_) (fun j hj => ih j hj (key j hj).2.2)
      rw [h1, cell_at h4, Nat.add_assoc]
      exact ⟨(key j hj).1, (key j hj).2.1⟩
theorem HRef.sound {h' : Heap} (H : MRel w C h) (hh : HRef h h') : Ev w C h w (C.drop h h') h' where
  mu _ _ h := h
  im _ h := .inl h
  im' b hb := by
    rcases hb with hb | ⟨id, n, o, h1, h2, h3, rfl⟩
    · exact .inl hb
    · exact .inr (.inl ⟨id, n, o, h1, h3, rfl⟩)
  live' b hb := by
    obtain ⟨id, n', o, h1, h2, rfl⟩ := hb
    obtain ⟨n, h3, _⟩ := hh id n' h1
    exact .inl ⟨id, n, o, h3, h2, rfl⟩
  frame _ _ _ := rfl
  size := Nat.le_refl _
  os := rfl
  tape := rfl
  output := rfl
  rel := by
    refine ⟨fun i i' n n' o o' h1 h2 h3 h4 h5 => ?_, fun i n' h1 => ?_, fun b hb => ?_, ?_⟩
    · obtain ⟨m, a1, _⟩ := hh i n h1
      obtain ⟨m', a2, _⟩ := hh i' n' h2
      exact H.inj i i' m m' o o' a1 a2 h3 h4 h5
    · obtain ⟨n, a1, a2⟩ := hh i n' h1
      obtain ⟨o, b1, b2, b3⟩ := H.own i n a1
      refine ⟨o, b1, fun hi => ?_, ?_⟩
      · rcases hi with hi | ⟨id, n2, o2, c1, c2, c3, c4⟩
        · exact b2 hi
        · have := H.inj id i n2 n o2 o c1 a1 c3 b1 c4
          rw [this, h1] at c2; cases c2
      · cases a2 with
        | refl => exact b3.mono (fun x v hr => hr.drop) rfl
        | @arr sz els els' hl hz hr =>
          obtain ⟨d1, d2, d3, c, e, d4, d5, d6⟩ := b3
          refine ⟨d1, fun i hi => hz i (by omega), by rw [hl]; exact d3, c, e, d4, d5, fun i j hi hj => ?_⟩
          obtain ⟨v, e1, e2, e3⟩ := d6 i j (by omega) hj
          exact ⟨v, e1, e2, (hr i j (by omega) hj).sound H e3⟩
    · rcases hb with hb | ⟨id, n, o, h1, h2, h3, rfl⟩
      · exact H.imlt b hb
      · exact H.live_lt ⟨id, n, o, h1, h3, rfl⟩
    · obtain ⟨N, hN⟩ := H.fresh
      refine ⟨N, fun i hi => ⟨(hN i hi).1, ?_⟩⟩
      cases hc : h' i with
      | none => rfl
      | some n =>
        obtain ⟨m, a1, _⟩ := hh i n hc
        rw [(hN i hi).2] at a1; cases a1
theorem Calls.mono {f : FuncId} {args : Array Value} {R R' : Ending → World → Prop} (h : Calls P f args w R) (hr : ∀ e w', R e w' → R' e w') : Calls P f args w R' :=
  fun cs => let ⟨e, w', fr, r, s⟩ := h cs; ⟨e, w', fr, hr _ _ r, s⟩
theorem run_call {f : FuncId} {x : Operand} {args : Array Operand} {ts : Array TypeId} {caps : Array Value} {fn : Func} {c : Code} (ho : o.op = .call { callee := .value x, args := args, argTypes := ts })
    (hx : a.eval x = .func (.func f) #[] caps) (h1 : P.funcs[f]? = some fn) (h2 : fn.body = some c) (h3 : (fn.name == "runtime.NumGoroutine") = false) :
    (execOp a.eval o).run P w = .ok (.enter f (args.map a.eval ++ caps)) w := by
  simp [execOp, ho, resolve, hx, Deferred.ofValue, invoke, callFunc, Sem.run, h1, h2, h3]
  simpa using h3
theorem op_callS (H : SR b env loc h a w C β) {f : FuncId} {x : Operand} {args : Array Operand} {ts : Array TypeId} {caps : Array Value} {vs : List AV} (ho : o.op = .call { callee := .value x, args := args, argTypes := ts })
    (hx : a.eval x = .func (.func f) #[] caps) (hl : vs.length = args.size + caps.size) (hv : ∀ j, j < vs.length → Rep w C (g vs j) ((args.map a.eval ++ caps).getD j undef))
    (hk : callS P f vs h fun r h => putK fz env o.dst (.av r) fun env => k env loc h) : Oper.wp P o a w (Next b fz env loc k) Q := by
  obtain ⟨vs', h', hh, hl', hr, ⟨fn, c, c1, c2, c3⟩, hc⟩ := hk
  have E1 := HRef.sound H.ev.rel hh
  unfold Oper.wp
  rw [run_call ho hx c1 c2 c3, Oper.upon_enter]
  refine (hc w _ _ E1.rel (by simp; omega) (fun j hj => (hr j (by omega)).sound H.ev.rel (hv j (by omega)))).mono fun e w' he => ?_
  obtain ⟨v, C', h2, r, rfl, E2, hrep, hq⟩ := he
  obtain ⟨env', H', K', hk'⟩ := (H.step (E1.trans E2)).put (y := .av r) (v := v) hrep av_lkey hq
  exact ⟨env', loc, h2, C', β, H', K', hk'⟩
theorem args_rep (H : SR b env loc h a w C β) {args : Array Operand} {vs : List AV} (h1 : vs.length = (args.toList.map (ev env)).length) (h2 : ∀ j, j < (args.toList.map (ev env)).length → asV (nth (args.toList.map (ev env)) j) = some (g vs j)) :
    ∀ j, j < vs.length → Rep w C (g vs j) ((args.map a.eval).getD j undef) := by
  intro j hj
  have hj' : j < args.size := by rw [h1] at hj; simpa using hj
  have h3 := h2 j (by simpa using hj')
  have h4 := ev_rep H (args[j])
  have e1 : nth (args.toList.map (ev env)) j = ev env args[j] := by simp [nth_eq, List.getD_eq_getElem?_getD, hj']
  rw [e1] at h3
  have e2 : (args.map a.eval).getD j undef = a.eval args[j] := by simp [Array.getD_eq_getD_getElem?, hj']
  rw [e2]
  exact h4.asV h3
theorem op_callF (H : SR b env loc h a w C β) {f : FuncId} {args : Array Operand} {ts : Array TypeId} (ho : o.op = .call { callee := .value (.func f), args := args, argTypes := ts }) (hk : aop P cf fz o env loc h k) : Oper.wp P o a w (Next b fz env loc k) Q := by
  simp only [aop, ho] at hk
  obtain ⟨vs, h1, h2, hk⟩ := asAVs_elim hk
  refine op_callS H (caps := #[]) ho rfl (by simpa using h1) (fun j hj => ?_) hk
  simpa using args_rep H h1 h2 j hj
theorem callV_elim {f : AV} {args : List AV} {k : AV → Heap → Prop} (hk : callV P f args h k) : ∃ fn caps, f = .fn fn caps ∧ callS P fn (args ++ caps) h k := by
  unfold callV at hk
  split at hk
  · exact ⟨_, _, rfl, hk⟩
  · cases hk
theorem op_callV (H : SR b env loc h a w C β) {t : Tmp} {args : Array Operand} {ts : Array TypeId} (ho : o.op = .call { callee := .value (.tmp t), args := args, argTypes := ts }) (hk : aop P cf fz o env loc h k) : Oper.wp P o a w (Next b fz env loc k) Q := by
  simp only [aop, ho] at hk
  obtain ⟨fv, hf, hk1⟩ := asAV_rep (x := .tmp t) H hk
  obtain ⟨vs, h1, h2, hk2⟩ := asAVs_elim hk1
  obtain ⟨fn, caps, rfl, hk3⟩ := callV_elim hk2
  generalize hv : a.eval (.tmp t) = va at hf
  cases hf with
  | fn cv hs hr =>
    refine op_callS H (caps := cv) ho hv (by simp at h1; simp [h1, hs]) (fun j hj => ?_) hk3
    have hsz : vs.length = args.size := by simpa using h1
    by_cases hj' : j < vs.length
    · have := args_rep H h1 h2 j hj'
      have e1 : g (vs ++ caps) j = g vs j := getD_app_l hj'
      rw [e1]
      have e2 : (args.map a.eval ++ cv).getD j undef = (args.map a.eval).getD j undef := by
        simp [Array.getD_eq_getD_getElem?, Array.getElem?_append, show j < args.size by omega]
      rw [e2]; exact this
    · have e1 : g (vs ++ caps) j = g caps (j - vs.length) := getD_app_r (by omega)
      rw [e1]
      have e2 : (args.map a.eval ++ cv).getD j undef = cv.getD (j - vs.length) undef := by
        simp [Array.getD_eq_getD_getElem?, Array.getElem?_append, show ¬ j < args.size by omega, hsz]
      rw [e2]
      exact hr _ (by simp at hj; omega)
end
end Am
