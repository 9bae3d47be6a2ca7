/- Maps, conversions. -/
import Derived.Test.YtoifckjdnldlpaaB7
set_option linter.unusedVariables false
set_option linter.unusedSimpArgs false
namespace Am
open Go
theorem run_getObj_o {P : Program} {w : World} {r : Nat} {ms : Array MapEntry} {cl : Nat} (hb : w.heap[r]? = some (.map ms cl)) : (getObj r).run P w = .ok (.map ms cl) w := by
  simp [getObj, Sem.run, hb]
theorem run_setObj_o {P : Program} {w : World} {r : Nat} {ms : Array MapEntry} {cl : Nat} (o : Obj) (hb : w.heap[r]? = some (.map ms cl)) : (setObj r o).run P w = .ok () { w with heap := w.heap.setIfInBounds r o } := by
  simp [setObj, Sem.run, hb]
theorem run_getObj_i {P : Program} {w : World} {r n k : Nat} {m : Option Nat} {seen : Array Nat} (hb : w.heap[r]? = some (.mapIter m n seen k)) : (getObj r).run P w = .ok (.mapIter m n seen k) w := by
  simp [getObj, Sem.run, hb]
theorem run_setObj_i {P : Program} {w : World} {r n k : Nat} {m : Option Nat} {seen : Array Nat} (o : Obj) (hb : w.heap[r]? = some (.mapIter m n seen k)) : (setObj r o).run P w = .ok () { w with heap := w.heap.setIfInBounds r o } := by
  simp [setObj, Sem.run, hb]
section
variable {P : Program} {cf : Cfg} {fz : Fz} {b : Base} {env : Env} {loc : Loc} {h : Heap} {a : Act} {w : World} {C : Cx} {β : Nat → Option Nat} {k : K} {o : Oper} {Q : Exit → Act → World → Prop}
theorem both_e {a b : Bool} (h : both a b = true) : a = true ∧ b = true := by cases a <;> cases b <;> simp_all [both]
theorem cellsK_unc {ti : TyI} {x : TV} {k : List AV → Prop} (h : cellsK ti x k) (h1 : ti.agg = false → ti.sz = 1) {v : Value} (hv : TRep w C β x v) :
    ∃ cs, k cs ∧ Rep w C (unc ti.agg cs) v ∧ (ti.agg = true → ∃ vs, v = .agg vs ∧ vs.size = ti.sz) ∧ (ti.agg = false → ∀ vs, v ≠ .agg vs) := by
  unfold cellsK at h
  cases ha : ti.agg with
  | true =>
    rw [ha] at h
    cases x with
    | ag ds =>
      obtain ⟨h2, h3⟩ := exactK_elim h
      have hv' : Rep w C (.agg ds) v := hv
      refine ⟨ds, h3, hv', fun _ => ?_, fun h => by cases h⟩
      cases hv' with
      | agg vs hs h1' hr => exact ⟨vs, rfl, by omega⟩
    | av y =>
      have h' : aggA ti.sz y fun cs => k (gets cs 0 ti.sz) := h
      have hv' : Rep w C y v := hv
      unfold aggA at h'
      split at h'
      · rename_i cs
        obtain ⟨h2, h3⟩ := h'
        refine ⟨_, h3, ?_, fun _ => ?_, fun h => by cases h⟩
        · cases hv' with
          | agg vs hs h1' hr =>
            refine Rep.agg vs (by rw [gets_length]; omega) (fun j hj => h1' j (by rw [gets_length] at hj; omega)) (fun j hj => ?_)
            rw [gets_length] at hj
            have := hr j (by omega)
            rw [show (gets cs 0 ti.sz).getD j .any = g (gets cs 0 ti.sz) j from rfl, g_gets _ _ _ _ hj, Nat.zero_add]
            exact this
        · cases hv' with
          | agg vs hs h1' hr => exact ⟨vs, rfl, by omega⟩
      · cases h'
    | bl b => exact (show False from h).elim
    | loc u off => exact (show False from h).elim
    | und => exact (show False from h).elim
    | dead => exact (show False from h).elim
  | false =>
    rw [ha] at h
    cases x with
    | ag ds => exact (show False from h).elim
    | av y =>
      have hv' : Rep w C y v := hv
      obtain ⟨h2, h3⟩ := oneA_elim h
      refine ⟨[y], h2, hv', fun h => (by cases h), fun _ vs e => ?_⟩
      subst e
      have := rep_one hv' h3
      cases this
    | bl b =>
      have hv' : v = .bool b := hv
      subst hv'
      exact ⟨[B b], h, .val rfl, fun h => (by cases h), fun _ vs e => by cases e⟩
    | loc u off => exact (show False from h).elim
    | und => exact (show False from h).elim
    | dead => exact (show False from h).elim
theorem zero_unc {t : TypeId} {ti : TyI} {i : TypeInfo} {z : Value} {d : TypeDesc} (F : TyF P t ti i z d) : Rep w C (unc ti.agg ti.zero) z := by
  have hz := F.zagg
  cases ha : ti.agg with
  | true =>
    rw [ha] at hz
    cases z <;> simp [aggV] at hz
    rename_i cs
    refine Rep.agg cs (by have := F.zsize; have h2 := F.zlen; simp [Value.cells] at this; omega) (fun j hj => ?_) (fun j hj => ?_)
    · exact (F.zcells (w := w) (C := C) j (by rw [← F.zlen]; exact hj)).2
    · exact (F.zcells j (by rw [← F.zlen]; exact hj)).1
  | false =>
    rw [ha] at hz
    have h0 := F.zcells (w := w) (C := C) 0 (by rw [F.sz1 ha]; omega)
    have e : z.cells = #[z] := by cases z <;> first | rfl | (simp [aggV] at hz)
    rw [e] at h0
    exact h0.1
theorem op_convert (HT : TabOk P cf) (H : SR b env loc h a w C β) {s t : TypeId} {x : Operand} (ho : o.op = .convert s t x) (hty : opTy cf o = true) (hk : aop P cf fz o env loc h k) : Oper.wp P o a w (Next b fz env loc k) Q := by
  simp only [opTy, ho] at hty
  obtain ⟨h1, h2⟩ := both_e hty
  obtain ⟨i, z, d, F⟩ := tyCheck_f (HT.2 t h2)
  obtain ⟨i', z', d', F'⟩ := tyCheck_f (HT.2 s h1)
  simp only [aop, ho] at hk
  split at hk
  case h_2 => exact (show False from hk).elim
  rename_i kd hkd
  obtain ⟨xv, hx, hk⟩ := asAV_rep H hk
  unfold convA at hk
  split at hk
  · have hv := rep_val hx
    refine wp_same H (v := .int kd (kd.wrap _)) ?_ (y := .av _) (.val rfl) av_lkey hk
    simp [execOp, ho, convert, run_underlying F'.und, run_underlying (F.int hkd), hv, Conv.intToInt]
  · exact hk.elim
theorem mapA_elim {ks : List TK} {m key : AV} {k : Nat → List (AV × AV) → Option Nat → Prop} (hk : mapA ks m key h k) : ∃ id es r, m = .mp id ∧ h id = some (.map es) ∧ findA ks key es 0 = some r ∧ k id es r := by
  unfold mapA at hk
  split at hk
  · split at hk
    · split at hk
      · exact ⟨_, _, _, rfl, ‹_›, ‹_›, hk⟩
      · exact hk.elim
    · exact hk.elim
  · exact hk.elim
/-- A key is looked up in an own map. -/
structure Found (P : Program) (w : World) (C : Cx) (kt : TypeId) (key : Value) (es : List (AV × AV)) (r : Option Nat) (b : Nat) (ms : Array MapEntry) : Prop where
  blk : w.heap[b]? = some (.map ms es.length)
  size : ms.size = es.length
  ent : ∀ i, i < es.length → ∃ m, ms[i]? = some m ∧ m.born = i ∧ Rep w C (es.getD i (.any, .any)).1 m.key ∧ Rep w C (es.getD i (.any, .any)).2 m.val
  check : ∀ em, (Instr.checkKey em 10000 kt key).run P w = .ok () w
  find : (Instr.findKey kt key ms.toList).run P w = .ok (r.bind fun j => (ms.toList[j]?).map fun m => (j, m.val)) w
  at_ : ∀ j, r = some j → ∃ m, ms[j]? = some m ∧ (Instr.keyThatStays m.key key).run P w = .ok key w
theorem found (HT : TabOk P cf) (H : SR b env loc h a w C β) {kt : TypeId} (hkt : keyTy (cf.ty kt) = true) {id : Nat} {es : List (AV × AV)} (hh : h id = some (.map es)) {x : TV} {v : Value} {cs : List AV} {r : Option Nat}
    (hr : Rep w C (unc (cf.ty kt).agg cs) v) (h1 : (cf.ty kt).agg = true → ∃ vs, v = .agg vs ∧ vs.size = (cf.ty kt).sz) (h0 : (cf.ty kt).agg = false → ∀ vs, v ≠ .agg vs) (hf : findA (ksOf (cf.ty kt)) (unc (cf.ty kt).agg cs) es 0 = some r) :
    ∃ ow ms, C.mu id = some ow ∧ Found P w C kt v es r ow.blk ms := by
  obtain ⟨hp, hq⟩ := both_e hkt
  obtain ⟨i, z, d, F⟩ := tyCheck_f (HT.2 kt hp)
  obtain ⟨ow, h4, h5, ms, h6, h7, h8⟩ := H.ev.rel.own id _ hh
  have hfv := findA_v hr hf (ms := ms.toList) (by simpa using h7) (fun j hj => by obtain ⟨m, a1, a2, a3, a4⟩ := h8 j hj; exact ⟨m, by simpa using a1, a3⟩)
  refine ⟨ow, ms, h4, h6, h7, h8, fun em => ?_, ?_, fun j hj => ?_⟩
  · cases ha : (cf.ty kt).agg with
    | true =>
      rw [ha] at hq
      obtain ⟨vs, rfl, hs⟩ := h1 ha
      exact run_checkKey_agg F ha hq hs em 9998 w
    | false =>
      rw [ha] at hq
      have hb : basicTy P kt (cf.ty kt).kd = true := by
        unfold basicTy
        rw [F.info, F.und]
        have e1 := F.sz1 ha
        have e2 := F.size
        simp only [Bool.and_eq_true, beq_iff_eq, decide_eq_true_eq]
        refine ⟨⟨by omega, hq⟩, ?_⟩
        have hd := F.desc
        cases d <;> simp_all [descCk, kindD, basicK]
      exact run_checkKey_basic hb em v 9999 w
  · unfold Instr.findKey
    simp only [Sem.run_bind, run_underlying F.und, Result.andThen]
    cases ha : (cf.ty kt).agg with
    | true =>
      rw [ha] at hq
      obtain ⟨vs, rfl, hs⟩ := h1 ha
      have hfv' : FindV (cf.ty kt).eq (.agg vs) ms.toList 0 r := by
        have : ksOf (cf.ty kt) = (cf.ty kt).eq := by simp [ksOf, ha]
        rw [this] at hfv; exact hfv
      have run := run_asking F ha hq hs w hfv'
      have none' : ∀ (l : List MapEntry), l ≠ [] → Instr.findNow d (.agg vs) l 0 = none := by
        intro l hl
        cases l with
        | nil => exact absurd rfl hl
        | cons e l => simp [Instr.findNow, Instr.sameNow]
      cases hm : ms.toList with
      | nil =>
        rw [hm] at hfv'
        have : r = none := hfv'
        subst this
        rfl
      | cons e l =>
        rw [none' _ (by simp)]
        rw [← hm]
        simpa using run
    | false =>
      rw [ha] at hq
      have hb : basicTy P kt (cf.ty kt).kd = true := by
        unfold basicTy
        rw [F.info, F.und]
        have e1 := F.sz1 ha
        have e2 := F.size
        simp only [Bool.and_eq_true, beq_iff_eq, decide_eq_true_eq]
        refine ⟨⟨by omega, hq⟩, ?_⟩
        have hd := F.desc
        cases d <;> simp_all [descCk, kindD, basicK]
      have hks : ksOf (cf.ty kt) = [(cf.ty kt).kd] := by simp [ksOf, ha]
      rw [hks] at hfv
      obtain ⟨d', e1, e2⟩ := run_find_basic hb (h0 ha) w hfv
      rw [F.und] at e1; cases e1
      rw [e2]
      simp
  · obtain ⟨m, e1, e2, e3⟩ := hfv.lt j hj
    exact ⟨m, by simpa using e2, e3.stays w⟩
theorem op_makeMap (H : SR b env loc h a w C β) {t : TypeId} {r : Option Operand} (ho : o.op = .makeMap t r) (hk : aop P cf fz o env loc h k) : Oper.wp P o a w (Next b fz env loc k) Q := by
  simp only [aop, ho] at hk
  cases r with
  | some r => exact (show False from hk).elim
  | none =>
    obtain ⟨N, hN⟩ := H.ev.rel.fresh
    obtain ⟨h1, h2⟩ := hN N (Nat.le_refl _)
    obtain ⟨C', h3, h4, E⟩ := Ev.newOwn H.ev.rel h1 h2 (.map #[] 0) 0 0 (.map []) fun C' hrep => ⟨#[], heap_push_new w _, rfl, fun i hi => by simp at hi⟩
    refine wp_val H (v := .map (some w.heap.size)) ?_ E (y := .av _) (Rep.mp h3) av_lkey (hk N h2)
    simp [execOp, ho, Instr.makeMap]
theorem mapTy_f {t : TypeId} {kt et : TypeId} (h : mapTy cf t = true) (hkd : (cf.ty t).kd = .map kt et) : pos (cf.ty t).sz = true ∧ keyTy (cf.ty kt) = true ∧ pos (cf.ty et).sz = true := by
  obtain ⟨h1, h2⟩ := both_e h
  rw [hkd] at h2
  obtain ⟨h3, h4⟩ := both_e h2
  exact ⟨h1, h3, h4⟩
theorem op_lookup (HT : TabOk P cf) (H : SR b env loc h a w C β) {t : TypeId} {m x : Operand} {ok : Bool} (ho : o.op = .lookup t m x ok) (hty : opTy cf o = true) (hk : aop P cf fz o env loc h k) : Oper.wp P o a w (Next b fz env loc k) Q := by
  simp only [opTy, ho] at hty
  simp only [aop, ho] at hk
  split at hk
  case h_2 => exact (show False from hk).elim
  rename_i kt et hkd
  obtain ⟨h1, h2, h3⟩ := mapTy_f hty hkd
  obtain ⟨i, z, d, F⟩ := tyCheck_f (HT.2 t h1)
  obtain ⟨ik, zk, dk, FK⟩ := tyCheck_f (HT.2 kt (both_e h2).1)
  obtain ⟨ie, ze, de, FE⟩ := tyCheck_f (HT.2 et h3)
  obtain ⟨mv, hm, hk⟩ := asAV_rep H hk
  obtain ⟨cs, hk, hc, hc1, hc2⟩ := cellsK_unc hk FK.sz1 (ev_rep H x)
  obtain ⟨id, es, r, rfl, hh, hf, hk⟩ := mapA_elim hk
  obtain ⟨ow, ms, g1, G⟩ := found HT H h2 (x := .dead) hh hc hc1 hc2 hf
  have hmv : a.eval m = .map (some ow.blk) := by
    generalize hv : a.eval m = va at hm
    cases hm with
    | mp hm' => rw [g1] at hm'; cases hm'; rfl
  have base : ∀ (e : Value) (q : Bool), (∀ c : Value × Bool → Sem Value, ((match (r.bind fun j => (ms.toList[j]?).map fun m => (j, m.val)) with | some (_, v) => (do let x ← pure (v, true); c x) | none => (do let y ← zeroValue et; let x ← pure (y, false); c x)) : Sem Value).run P w = (c (e, q)).run P w) →
      (execOp a.eval o).run P w = .ok (.value (if ok then .tuple #[e, .bool q] else e)) w := by
    intro e q he
    have hl : (Instr.lookup t (.map (some ow.blk)) (a.eval x) ok).run P w = .ok (if ok then .tuple #[e, .bool q] else e) w := by
      unfold Instr.lookup
      simp only [Sem.run_bind, run_underlying (F.map hkd), Result.andThen, run_getObj_o G.blk, Sem.run_pure, G.check, G.find]
      exact he _
    simp only [execOp, ho, hmv, Sem.run_bind, hl, Result.andThen, Sem.run_pure]
  cases r with
  | none =>
    refine wp_same H (base ze false fun c => ?_) (y := .av _) ?_ av_lkey hk
    · simp only [Option.bind_none, Sem.run_bind, FE.run_zero, Result.andThen, Sem.run_pure]
    · cases ok with
      | false => exact zero_unc FE
      | true => exact Rep.tup #[ze, .bool false] rfl (fun j hj => by
          match j, hj with
          | 0, _ => exact zero_unc FE
          | 1, _ => exact .val rfl)
  | some j =>
    obtain ⟨me, e1, e2⟩ := G.at_ j rfl
    have hj : j < es.length := by rw [← G.size]; exact (Array.getElem?_eq_some_iff.1 e1).1
    obtain ⟨m', e3, e4, e5, e6⟩ := G.ent j hj
    rw [e1] at e3; cases e3
    have e1' : ms.toList[j]? = some me := by simpa using e1
    refine wp_same H (base me.val true fun c => ?_) (y := .av _) ?_ av_lkey hk
    · simp only [Option.bind_some, e1', Option.map_some, Sem.run_bind, Sem.run_pure, Result.andThen]
    · cases ok with
      | false => exact e6
      | true => exact Rep.tup #[me.val, .bool true] rfl (fun i hi => by
          match i, hi with
          | 0, _ => exact e6
          | 1, _ => exact .val rfl)
/-- An operation that hands back nothing, the world having gone on. -/
theorem wp_unit (H : SR b env loc h a w C β) {w' : World} {C' : Cx} {h' : Heap} (hr : (execOp a.eval o).run P w = .ok .skip w') (E : Ev w C h w' C' h') (hk : putK fz env o.dst .dead fun env => k env loc h') :
    Oper.wp P o a w (Next b fz env loc k) Q := by
  unfold Oper.wp
  rw [hr]
  obtain ⟨env', H', K', hk'⟩ := (H.step E).put (y := .dead) (v := undef) (dst := o.dst) (fz := fz) trivial (fun _ _ h => by cases h) hk
  exact ⟨env', loc, h', C', β, H', K', hk'⟩
theorem ev_map (HM : MRel w C h) {id : Nat} {es es' : List (AV × AV)} {ow : Own} {ms' : Array MapEntry} (hh : h id = some (.map es)) (hm : C.mu id = some ow) (hlt : ow.blk < w.heap.size)
    (hs : ms'.size = es'.length) (he : ∀ i, i < es'.length → ∃ m, ms'[i]? = some m ∧ m.born = i ∧ Rep w C (es'.getD i (.any, .any)).1 m.key ∧ Rep w C (es'.getD i (.any, .any)).2 m.val) :
    Ev w C h { w with heap := w.heap.setIfInBounds ow.blk (.map ms' es'.length) } C (h.set id (.map es')) := by
  refine Ev.setOwn HM hh hm (fun b hb => ?_) (by simp) rfl rfl rfl fun hrep => ⟨ms', ?_, hs, fun i hi => ?_⟩
  · show (w.heap.setIfInBounds ow.blk _)[b]? = _
    rw [Array.getElem?_setIfInBounds, if_neg (Ne.symm hb)]
  · show (w.heap.setIfInBounds ow.blk _)[ow.blk]? = _
    rw [Array.getElem?_setIfInBounds_self_of_lt hlt]
  · obtain ⟨m, a1, a2, a3, a4⟩ := he i hi
    exact ⟨m, a1, a2, hrep _ _ a3, hrep _ _ a4⟩
theorem ents_set {es : List (AV × AV)} {ms : Array MapEntry} (hs : ms.size = es.length) (he : ∀ i, i < es.length → ∃ m, ms[i]? = some m ∧ m.born = i ∧ Rep w C (es.getD i (.any, .any)).1 m.key ∧ Rep w C (es.getD i (.any, .any)).2 m.val)
    {j : Nat} (hj : j < es.length) {x : AV × AV} {f : MapEntry → MapEntry} (hf : ∀ m, ms[j]? = some m → (f m).born = m.born ∧ Rep w C x.1 (f m).key ∧ Rep w C x.2 (f m).val) :
    (ms.modify j f).size = (es.set j x).length ∧ ∀ i, i < (es.set j x).length → ∃ m, (ms.modify j f)[i]? = some m ∧ m.born = i ∧ Rep w C ((es.set j x).getD i (.any, .any)).1 m.key ∧ Rep w C ((es.set j x).getD i (.any, .any)).2 m.val := by
  refine ⟨by simp [hs], fun i hi => ?_⟩
  rw [List.length_set] at hi
  obtain ⟨m, a1, a2, a3, a4⟩ := he i hi
  by_cases e : j = i
  · subst e
    obtain ⟨b1, b2, b3⟩ := hf m a1
    refine ⟨f m, by simp [Array.getElem?_modify, a1], by rw [b1]; exact a2, ?_, ?_⟩
    · simpa [List.getD_eq_getElem?_getD, hi] using b2
    · simpa [List.getD_eq_getElem?_getD, hi] using b3
  · refine ⟨m, by simp [Array.getElem?_modify, e, a1], a2, ?_, ?_⟩
    · simpa [List.getD_eq_getElem?_getD, List.getElem?_set_ne e] using a3
    · simpa [List.getD_eq_getElem?_getD, List.getElem?_set_ne e] using a4
theorem ents_push {es : List (AV × AV)} {ms : Array MapEntry} (hs : ms.size = es.length) (he : ∀ i, i < es.length → ∃ m, ms[i]? = some m ∧ m.born = i ∧ Rep w C (es.getD i (.any, .any)).1 m.key ∧ Rep w C (es.getD i (.any, .any)).2 m.val)
    {x : AV × AV} {e : MapEntry} (h1 : e.born = es.length) (h2 : Rep w C x.1 e.key) (h3 : Rep w C x.2 e.val) :
    (ms.push e).size = (es ++ [x]).length ∧ ∀ i, i < (es ++ [x]).length → ∃ m, (ms.push e)[i]? = some m ∧ m.born = i ∧ Rep w C ((es ++ [x]).getD i (.any, .any)).1 m.key ∧ Rep w C ((es ++ [x]).getD i (.any, .any)).2 m.val := by
  refine ⟨by simp [hs], fun i hi => ?_⟩
  simp at hi
  by_cases e1 : i = es.length
  · subst e1
    refine ⟨e, by rw [← hs]; simp, h1, ?_, ?_⟩
    · simpa [List.getD_eq_getElem?_getD] using h2
    · simpa [List.getD_eq_getElem?_getD] using h3
  · have hi' : i < es.length := by omega
    obtain ⟨m, a1, a2, a3, a4⟩ := he i hi'
    refine ⟨m, ?_, a2, ?_, ?_⟩
    · rw [Array.getElem?_push, if_neg (by omega)]; exact a1
    · simpa [List.getD_eq_getElem?_getD, List.getElem?_append_left hi'] using a3
    · simpa [List.getD_eq_getElem?_getD, List.getElem?_append_left hi'] using a4
theorem op_mapUpdate (HT : TabOk P cf) (H : SR b env loc h a w C β) {t : TypeId} {m x v : Operand} (ho : o.op = .mapUpdate t m x v) (hty : opTy cf o = true) (hk : aop P cf fz o env loc h k) : Oper.wp P o a w (Next b fz env loc k) Q := by
  simp only [opTy, ho] at hty
  simp only [aop, ho] at hk
  split at hk
  case h_2 => exact (show False from hk).elim
  rename_i kt et hkd
  obtain ⟨h1, h2, h3⟩ := mapTy_f hty hkd
  obtain ⟨i, z, d, F⟩ := tyCheck_f (HT.2 t h1)
  obtain ⟨ik, zk, dk, FK⟩ := tyCheck_f (HT.2 kt (both_e h2).1)
  obtain ⟨ie, ze, de, FE⟩ := tyCheck_f (HT.2 et h3)
  obtain ⟨mv, hm, hk⟩ := asAV_rep H hk
  obtain ⟨cs, hk, hc, hc1, hc2⟩ := cellsK_unc hk FK.sz1 (ev_rep H x)
  obtain ⟨ds, hk, hd, _, _⟩ := cellsK_unc hk FE.sz1 (ev_rep H v)
  obtain ⟨id, es, r, rfl, hh, hf, hk⟩ := mapA_elim hk
  obtain ⟨ow, ms, g1, G⟩ := found HT H h2 (x := .dead) hh hc hc1 hc2 hf
  have hlt : ow.blk < w.heap.size := (Array.getElem?_eq_some_iff.1 G.blk).1
  have hmv : a.eval m = .map (some ow.blk) := by
    generalize hv : a.eval m = va at hm
    cases hm with
    | mp hm' => rw [g1] at hm'; cases hm'; rfl
  have fin : ∀ w', (Instr.mapUpdate t (.map (some ow.blk)) (a.eval x) (a.eval v)).run P w = .ok () w' → (execOp a.eval o).run P w = .ok .skip w' := by
    intro w' hr
    simp only [execOp, ho, hmv, Sem.run_bind, hr, Result.andThen, Sem.run_pure]
  cases r with
  | none =>
    obtain ⟨e1, e2⟩ := ents_push G.size G.ent (x := (unc (cf.ty kt).agg cs, unc (cf.ty et).agg ds)) (e := { key := a.eval x, val := a.eval v, born := es.length }) rfl hc hd
    refine wp_unit H (fin _ ?_) (ev_map H.ev.rel hh g1 hlt e1 e2) hk
    unfold Instr.mapUpdate
    simp only [Sem.run_bind, run_underlying (F.map hkd), Result.andThen, run_getObj_o G.blk, G.check, G.find, Option.bind_none, run_setObj_o _ G.blk]
    rw [List.length_append]; rfl
  | some j =>
    obtain ⟨me, e1, e2⟩ := G.at_ j rfl
    have hj : j < es.length := by rw [← G.size]; exact (Array.getElem?_eq_some_iff.1 e1).1
    obtain ⟨s1, s2⟩ := ents_set G.size G.ent hj (x := (unc (cf.ty kt).agg cs, unc (cf.ty et).agg ds)) (f := fun e => { e with key := a.eval x, val := a.eval v }) (fun m _ => ⟨rfl, hc, hd⟩)
    refine wp_unit H (fin _ ?_) (ev_map H.ev.rel hh g1 hlt s1 s2) hk
    have e1' : ms.toList[j]? = some me := by simpa using e1
    unfold Instr.mapUpdate
    simp only [Sem.run_bind, run_underlying (F.map hkd), Result.andThen, run_getObj_o G.blk, G.check, G.find, Option.bind_some, e1', e1, Option.map_some, Option.getD_some, e2, run_setObj_o _ G.blk, List.length_set]
theorem op_mapEntry (HT : TabOk P cf) (H : SR b env loc h a w C β) {t : TypeId} {m x : Operand} (ho : o.op = .mapEntry t m x) (hty : opTy cf o = true) (hk : aop P cf fz o env loc h k) : Oper.wp P o a w (Next b fz env loc k) Q := by
  simp only [opTy, ho] at hty
  simp only [aop, ho] at hk
  split at hk
  case h_2 => exact (show False from hk).elim
  rename_i kt et hkd
  obtain ⟨h1, h2, h3⟩ := mapTy_f hty hkd
  obtain ⟨i, z, d, F⟩ := tyCheck_f (HT.2 t h1)
  obtain ⟨ik, zk, dk, FK⟩ := tyCheck_f (HT.2 kt (both_e h2).1)
  obtain ⟨ie, ze, de, FE⟩ := tyCheck_f (HT.2 et h3)
  obtain ⟨mv, hm, hk⟩ := asAV_rep H hk
  obtain ⟨cs, hk, hc, hc1, hc2⟩ := cellsK_unc hk FK.sz1 (ev_rep H x)
  obtain ⟨id, es, r, rfl, hh, hf, hk⟩ := mapA_elim hk
  obtain ⟨ow, ms, g1, G⟩ := found HT H h2 (x := .dead) hh hc hc1 hc2 hf
  have hlt : ow.blk < w.heap.size := (Array.getElem?_eq_some_iff.1 G.blk).1
  have hmv : a.eval m = .map (some ow.blk) := by
    generalize hv : a.eval m = va at hm
    cases hm with
    | mp hm' => rw [g1] at hm'; cases hm'; rfl
  have fin : ∀ v w', (Instr.mapEntry t (.map (some ow.blk)) (a.eval x)).run P w = .ok v w' → (execOp a.eval o).run P w = .ok (.value v) w' := by
    intro v w' hr
    simp only [execOp, ho, hmv, Sem.run_bind, hr, Result.andThen, Sem.run_pure]
  cases r with
  | none =>
    obtain ⟨e1, e2⟩ := ents_push (w := w) (C := C) G.size G.ent (x := (unc (cf.ty kt).agg cs, unc (cf.ty et).agg (cf.ty et).zero)) (e := { key := a.eval x, val := ze, born := es.length }) rfl hc (zero_unc FE)
    have E := ev_map H.ev.rel hh g1 hlt e1 e2
    refine wp_val H (fin (.tuple #[ze, goInt es.length]) _ ?_) E (y := .av _) ?_ av_lkey hk
    · unfold Instr.mapEntry
      simp only [Sem.run_bind, run_underlying (F.map hkd), Result.andThen, run_getObj_o G.blk, G.check, G.find, Option.bind_none, FE.run_zero, run_setObj_o _ G.blk, Sem.run_pure]
      rw [List.length_append]; rfl
    · exact Rep.tup #[ze, goInt es.length] rfl (fun j hj => by
        match j, hj with
        | 0, _ => exact zero_unc FE
        | 1, _ => exact .val rfl)
  | some j =>
    obtain ⟨me, e1, e2⟩ := G.at_ j rfl
    have hj : j < es.length := by rw [← G.size]; exact (Array.getElem?_eq_some_iff.1 e1).1
    obtain ⟨m', e3, e4, e5, e6⟩ := G.ent j hj
    rw [e1] at e3; cases e3
    obtain ⟨s1, s2⟩ := ents_set G.size G.ent hj (x := (unc (cf.ty kt).agg cs, eval2 es j)) (f := fun e => { e with key := a.eval x }) (fun m hm' => ⟨rfl, hc, by rw [e1] at hm'; cases hm'; exact e6⟩)
    have E := ev_map H.ev.rel hh g1 hlt s1 s2
    refine wp_val H (fin (.tuple #[me.val, goInt j]) _ ?_) E (y := .av _) ?_ av_lkey hk
    · have e1' : ms.toList[j]? = some me := by simpa using e1
      unfold Instr.mapEntry
      simp only [Sem.run_bind, run_underlying (F.map hkd), Result.andThen, run_getObj_o G.blk, G.check, G.find, Option.bind_some, e1', e1, Option.map_some, Option.getD_some, e2, run_setObj_o _ G.blk, List.length_set, Sem.run_pure, e4]
    · exact Rep.tup #[me.val, goInt j] rfl (fun i hi => by
        match i, hi with
        | 0, _ => exact E.rep H.ev.rel e6
        | 1, _ => exact .val rfl)
theorem entS_elim {m i v : AV} {k : Heap → Prop} (hk : entS m i v h k) : ∃ id kk n es, m = .mp id ∧ i = .val (.int kk n) ∧ h id = some (.map es) ∧ 0 ≤ n ∧ n < es.length ∧ k (h.set id (.map (es.set n.toNat (ekey es n.toNat, v)))) := by
  unfold entS at hk
  split at hk
  · split at hk
    · exact ⟨_, _, _, _, rfl, rfl, ‹_›, hk⟩
    · exact hk.elim
  · exact hk.elim
theorem op_entryStore (HT : TabOk P cf) (H : SR b env loc h a w C β) {t : TypeId} {m x v : Operand} (ho : o.op = .entryStore t m x v) (hty : opTy cf o = true) (hk : aop P cf fz o env loc h k) : Oper.wp P o a w (Next b fz env loc k) Q := by
  simp only [opTy, ho] at hty
  simp only [aop, ho] at hk
  split at hk
  case h_2 => exact (show False from hk).elim
  rename_i kt et hkd
  obtain ⟨h1, h2, h3⟩ := mapTy_f hty hkd
  obtain ⟨ie, ze, de, FE⟩ := tyCheck_f (HT.2 et h3)
  obtain ⟨mv, hm, hk⟩ := asAV_rep H hk
  obtain ⟨iv, hi, hk⟩ := asAV_rep H hk
  obtain ⟨ds, hk, hd, _, _⟩ := cellsK_unc hk FE.sz1 (ev_rep H v)
  obtain ⟨id, kk, n, es, rfl, rfl, hh, n0, n1, hk⟩ := entS_elim hk
  have hiv := rep_val hi
  obtain ⟨ow, g1, h5, ms, h6, h7, h8⟩ := H.ev.rel.own id _ hh
  have hlt : ow.blk < w.heap.size := (Array.getElem?_eq_some_iff.1 h6).1
  have hmv : a.eval m = .map (some ow.blk) := by
    generalize hv : a.eval m = va at hm
    cases hm with
    | mp hm' => rw [g1] at hm'; cases hm'; rfl
  have hj : n.toNat < es.length := by omega
  obtain ⟨me, a1, a2, a3, a4⟩ := h8 n.toNat hj
  obtain ⟨s1, s2⟩ := ents_set h7 h8 hj (x := (ekey es n.toNat, unc (cf.ty et).agg ds)) (f := fun e => { e with val := a.eval v }) (fun m hm' => ⟨rfl, by rw [a1] at hm'; cases hm'; exact a3, hd⟩)
  have hfind : ms.findIdx? (fun e => (e.born : Int) == n) = some n.toNat := by
    rw [Array.findIdx?_eq_some_iff_getElem]
    refine ⟨by omega, ?_, fun j hj' => ?_⟩
    · have : ms[n.toNat]'(by omega) = me := by have := a1; rw [Array.getElem?_eq_getElem (by omega)] at this; exact Option.some.inj this
      rw [this, a2]; simp; omega
    · obtain ⟨m', b1, b2, _⟩ := h8 j (by omega)
      have : ms[j]'(by omega) = m' := by have := b1; rw [Array.getElem?_eq_getElem (by omega)] at this; exact Option.some.inj this
      rw [this, b2]; simp; omega
  refine wp_unit H ?_ (ev_map H.ev.rel hh g1 hlt s1 s2) hk
  have hr : (Instr.entryStore t (.map (some ow.blk)) (.int kk n) (a.eval v)).run P w = .ok () { w with heap := w.heap.setIfInBounds ow.blk (.map (ms.modify n.toNat fun e => { e with val := a.eval v }) (es.set n.toNat (ekey es n.toNat, unc (cf.ty et).agg ds)).length) } := by
    unfold Instr.entryStore
    simp only [Sem.run_bind, Result.andThen, run_getObj_o h6, asInt, asIntOf, Sem.run_pure, hfind, run_setObj_o _ h6, List.length_set]
  simp only [execOp, ho, hmv, hiv, Sem.run_bind, hr, Result.andThen, Sem.run_pure]
theorem op_range (HT : TabOk P cf) (H : SR b env loc h a w C β) {t : TypeId} {m : Operand} (ho : o.op = .range t m) (hty : opTy cf o = true) (hk : aop P cf fz o env loc h k) : Oper.wp P o a w (Next b fz env loc k) Q := by
  have hty' : pos (cf.ty t).sz = true := by simpa only [opTy, ho] using hty
  obtain ⟨i, z, d, F⟩ := tyCheck_f (HT.2 t hty')
  simp only [aop, ho] at hk
  split at hk
  case h_2 => exact (show False from hk).elim
  rename_i kt et hkd
  obtain ⟨mv, hm, hk⟩ := asAV_rep H hk
  unfold rangeA at hk
  split at hk
  case h_2 => exact hk.elim
  rename_i id
  split at hk
  case h_2 => exact hk.elim
  rename_i es hh
  obtain ⟨ow, g1, h5, ms, h6, h7, h8⟩ := H.ev.rel.own id _ hh
  have hmv : a.eval m = .map (some ow.blk) := by
    generalize hv : a.eval m = va at hm
    cases hm with
    | mp hm' => rw [g1] at hm'; cases hm'; rfl
  obtain ⟨N, hN⟩ := H.ev.rel.fresh
  obtain ⟨h1, h2⟩ := hN N (Nat.le_refl _)
  obtain ⟨C', h3, h4, E⟩ := Ev.newOwn H.ev.rel h1 h2 (.mapIter (some ow.blk) es.length #[] es.length) 0 0 (.iter id es.length (List.range es.length) none) fun C' hrep =>
    ⟨ow.blk, #[], hrep _ _ (by rw [← hmv]; exact hm), heap_push_new w _, List.nodup_range, by simp, .inl rfl, rfl, by simp⟩
  refine wp_val H (v := .pointer (some ⟨w.heap.size, 0, none⟩)) ?_ E (y := .av _) (show Rep _ C' (.op N 0 0) _ from by simpa using (Rep.op (w := w.alloc (.mapIter (some ow.blk) es.length #[] es.length)) (ix := 0) (off := 0) h3)) av_lkey (hk N h2)
  simp only [execOp, ho, hmv, Instr.range, Sem.run_bind, run_underlying (F.map hkd), Result.andThen, run_getObj_o h6, Sem.run_pure, run_newObj_alloc]
theorem iterA_elim {it : AV} {k : Nat → Nat → Nat → List (AV × AV) → List Nat → Option Nat → Prop} (hk : iterA it h k) :
    ∃ i id es left cur, it = .op i 0 0 ∧ h i = some (.iter id es.length left cur) ∧ h id = some (.map es) ∧ k i id es.length es left cur := by
  unfold iterA at hk
  split at hk
  · split at hk
    · split at hk
      · obtain ⟨rfl, hk⟩ := hk
        exact ⟨_, _, _, _, _, rfl, ‹_›, ‹_›, hk⟩
      · exact hk.elim
    · exact hk.elim
  · exact hk.elim
theorem op_entry (H : SR b env loc h a w C β) {it : Operand} (ho : o.op = .entry it) (hk : aop P cf fz o env loc h k) : Oper.wp P o a w (Next b fz env loc k) Q := by
  simp only [aop, ho] at hk
  obtain ⟨iv, hi, hk⟩ := asAV_rep H hk
  obtain ⟨i, id, es, left, cur, rfl, hh1, hh2, hk⟩ := iterA_elim hk
  cases cur with
  | none => exact hk.elim
  | some j =>
    obtain ⟨ow, g1, h5, ms, h6, h7, h8⟩ := H.ev.rel.own id _ hh2
    obtain ⟨oi, q1, q2, bb, seen, q3, q4, q5, q6, q7, q8, q9⟩ := H.ev.rel.own i _ hh1
    have hb : bb = ow.blk := by
      cases q3 with
      | mp hm' => rw [g1] at hm'; cases hm'; rfl
    subst hb
    have hiv : a.eval it = .pointer (some ⟨oi.blk, 0, none⟩) := by
      generalize hv : a.eval it = va at hi
      cases hi with
      | op hm' => rw [q1] at hm'; cases hm'; simp
    have hj : j < es.length := q9 j (Array.mem_of_back? q8)
    obtain ⟨me, a1, a2, a3, a4⟩ := h8 j hj
    have hfind : ms.find? (fun e => e.born == j) = some me := by
      rw [Array.find?_eq_some_iff_getElem]
      refine ⟨by simp [a2], j, by omega, ?_, fun k hk' => ?_⟩
      · have := a1; rw [Array.getElem?_eq_getElem (by omega)] at this; exact Option.some.inj this
      · obtain ⟨m', b1, b2, _⟩ := h8 k (by omega)
        have : ms[k]'(by omega) = m' := by have := b1; rw [Array.getElem?_eq_getElem (by omega)] at this; exact Option.some.inj this
        rw [this, b2]; simp; omega
    refine wp_same H (v := .tuple #[me.key, me.val]) ?_ (y := .av _) (Rep.tup #[me.key, me.val] rfl (fun i hi => by
        match i, hi with
        | 0, _ => exact a3
        | 1, _ => exact a4)) av_lkey hk
    simp only [execOp, ho, hiv, Instr.entry, Sem.run_bind, run_getObj_i q4, Result.andThen, q8, run_getObj_o h6, bne_self_eq_false, Bool.false_eq_true, if_false, hfind, Sem.run_pure]
theorem op_next (H : SR b env loc h a w C β) {it : Operand} {str : Bool} (ho : o.op = .next it str) (hk : aop P cf fz o env loc h k) : Oper.wp P o a w (Next b fz env loc k) Q := by
  simp only [aop, ho] at hk
  cases str with
  | true => exact (show False from hk).elim
  | false =>
    obtain ⟨iv, hi, hk⟩ := asAV_rep H hk
    obtain ⟨i, id, es, left, cur, rfl, hh1, hh2, hk⟩ := iterA_elim hk
    obtain ⟨ow, g1, h5, ms, h6, h7, h8⟩ := H.ev.rel.own id _ hh2
    obtain ⟨oi, q1, q2, bb, seen, q3, q4, q5, q6, q7, q8, q9⟩ := H.ev.rel.own i _ hh1
    have hb : bb = ow.blk := by
      cases q3 with
      | mp hm' => rw [g1] at hm'; cases hm'; rfl
    subst hb
    have hiv : a.eval it = .pointer (some ⟨oi.blk, 0, none⟩) := by
      generalize hv : a.eval it = va at hi
      cases hi with
      | op hm' => rw [q1] at hm'; cases hm'; simp
    have hcl : ow.blk ≠ oi.blk := fun e => by rw [e, q4] at h6; cases h6
    let L := ms.filter fun e => !seen.contains e.born
    have hmem : ∀ e, e ∈ L → ∃ j, j < es.length ∧ ms[j]? = some e ∧ e.born = j ∧ j ∈ left := by
      intro e he
      obtain ⟨he1, he2⟩ := Array.mem_filter.1 he
      obtain ⟨j, hj, rfl⟩ := Array.getElem_of_mem he1
      obtain ⟨m', b1, b2, _⟩ := h8 j (by omega)
      have e1 : ms[j] = m' := by have := b1; rw [Array.getElem?_eq_getElem hj] at this; exact Option.some.inj this
      refine ⟨j, by omega, by simp [hj], by rw [e1, b2], (q6 j).2 ⟨by omega, fun hs => ?_⟩⟩
      rw [e1, b2] at he2
      simp [hs] at he2
    have hold : L.filter (fun e => decide (e.born < es.length)) = L := by
      rw [Array.filter_eq_self]
      intro e he
      obtain ⟨j, hj, _, hb, _⟩ := hmem e he
      simp [hb, hj]
    have hnew : L.filter (fun e => decide (e.born ≥ es.length)) = #[] := by
      rw [Array.filter_eq_empty_iff]
      intro e he
      obtain ⟨j, hj, _, hb, _⟩ := hmem e he
      simp [hb]; omega
    have hguard : (!seen.isEmpty && !ms.isEmpty && ms.all (fun e => decide (e.born ≥ es.length))) = false := by
      cases hse : seen.isEmpty with
      | true => rfl
      | false =>
        have hpos : 0 < es.length := q7.resolve_left (by rw [hse]; simp)
        obtain ⟨m', b1, b2, _⟩ := h8 0 hpos
        have : ms.all (fun e => decide (e.born ≥ es.length)) = false := by
          rw [Array.all_eq_false]
          refine ⟨0, by omega, ?_⟩
          have e1 : ms[0]'(by omega) = m' := by have := b1; rw [Array.getElem?_eq_getElem (by omega)] at this; exact Option.some.inj this
          rw [e1, b2]; simp only [decide_eq_true_eq]; omega
        rw [this]; simp
    let cand : Array (Option MapEntry) := (if L.isEmpty then #[none] else #[]) ++ (L ++ #[]).map some
    have hrun : ∀ c w1 v w2, (choose (.mapNext cand.size)).run P w = .ok c w1 →
        ((match cand[c]? with
          | some (some e) => (do setObj oi.blk (.mapIter (some ow.blk) es.length (seen.push e.born) es.length); pure (.tuple #[.bool true, e.key, e.val]))
          | some none => (pure (.tuple #[.bool false]))
          | none => stuck "Next: no such candidate") : Sem Value).run P w1 = .ok v w2 → (execOp a.eval o).run P w = .ok (.value v) w2 := by
      intro c w1 v w2 hc hv
      have hn : (Instr.next (.pointer (some ⟨oi.blk, 0, none⟩)) false o.type).run P w = .ok v w2 := by
        unfold Instr.next
        simp only [Sem.run_bind, run_getObj_i q4, Result.andThen, run_getObj_o h6, hguard, Bool.false_eq_true, if_false]
        have e1 : (ms.filter fun e => !seen.contains e.born) = L := rfl
        simp only [e1, hold, hnew]
        have e2 : ((if L.isEmpty then #[none] else #[]) ++ (L ++ #[]).map some : Array (Option MapEntry)) = cand := rfl
        simp only [e2, hc]
        exact hv
      simp only [execOp, ho, hiv, Sem.run_bind, hn, Result.andThen, Sem.run_pure]
    cases hl : left with
    | nil =>
      have hL : L = #[] := by
        rw [Array.eq_empty_iff_size_eq_zero]
        rcases Nat.eq_zero_or_pos L.size with h0 | h0
        · exact h0
        · obtain ⟨j, _, _, _, hj⟩ := hmem L[0] (by simp)
          rw [hl] at hj; cases hj
      have hcand : cand = #[none] := by show (if L.isEmpty then #[none] else #[]) ++ (L ++ #[]).map some = _; rw [hL]; simp
      refine wp_same H (hrun 0 w _ w ?_ ?_) (y := .av _) (Rep.tup #[.bool false] rfl (fun i hi => by
        match i, hi with
        | 0, _ => exact .val rfl)) av_lkey (hk.1 hl)
      · rw [hcand]; rfl
      · rw [hcand]; rfl
    | cons l0 ls =>
      have hsz : 0 < L.size := by
        have hl0 : l0 ∈ left := by rw [hl]; simp
        obtain ⟨c1, c2⟩ := (q6 l0).1 hl0
        obtain ⟨m', b1, b2, _⟩ := h8 l0 c1
        have : m' ∈ L := Array.mem_filter.2 ⟨Array.mem_of_getElem? b1, by rw [b2]; simpa using c2⟩
        exact Array.size_pos_of_mem this
      have hcand : cand = L.map some := by
        show (if L.isEmpty then #[none] else #[]) ++ (L ++ #[]).map some = _
        have : L.isEmpty = false := by rw [Array.isEmpty_eq_false_iff]; intro e; rw [e] at hsz; simp at hsz
        rw [this]; simp
      obtain ⟨c, n', hc, hcl'⟩ : ∃ c n', (choose (.mapNext cand.size)).run P w = .ok c { w with drawn := n' } ∧ c < L.size := by
        rw [run_choose_drew]
        split
        · exact ⟨0, w.drawn, rfl, hsz⟩
        · refine ⟨_, w.drawn + 1, rfl, ?_⟩
          show _ % cand.size < _
          rw [hcand, Array.size_map]
          exact Nat.mod_lt _ hsz
      obtain ⟨j, hj, hje, hjb, hjl⟩ := hmem L[c] (Array.getElem_mem _)
      have hcc : cand[c]? = some (some L[c]) := by rw [hcand]; simp [hcl']
      obtain ⟨m', b1, b2, b3, b4⟩ := h8 j hj
      rw [hje] at b1; cases b1
      have E1 := Ev.draw H.ev.rel n'
      have E2 : Ev { w with drawn := n' } C h { ({ w with drawn := n' } : World) with heap := w.heap.setIfInBounds oi.blk (.mapIter (some ow.blk) es.length (seen.push j) es.length) } C (h.set i (.iter id es.length (left.erase j) (some j))) := by
        refine Ev.setOwn E1.rel hh1 q1 (fun b hb => ?_) (by simp) rfl rfl rfl fun hrep => ⟨ow.blk, seen.push j, hrep _ _ (E1.rep H.ev.rel q3), ?_, q5.erase j, fun k => ?_, .inr (by omega), by simp, fun k hk' => ?_⟩
        · show (w.heap.setIfInBounds oi.blk _)[b]? = _
          rw [Array.getElem?_setIfInBounds, if_neg (Ne.symm hb)]
        · show (w.heap.setIfInBounds oi.blk _)[oi.blk]? = _
          rw [Array.getElem?_setIfInBounds_self_of_lt (Array.getElem?_eq_some_iff.1 q4).1]
        · rw [q5.mem_erase_iff, q6 k, Array.mem_push]
          constructor
          · rintro ⟨c1, c2, c3⟩; exact ⟨c2, fun hc => hc.elim c3 c1⟩
          · rintro ⟨c1, c2⟩; exact ⟨fun e => c2 (.inr e), c1, fun e => c2 (.inl e)⟩
        · rcases Array.mem_push.1 hk' with h | h
          · exact q9 k h
          · omega
      refine wp_val H (hrun c _ (.tuple #[.bool true, L[c].key, L[c].val]) _ hc ?_) (E1.trans E2) (y := .av _) ?_ av_lkey (hk.2 j hjl)
      · rw [hcc]
        simp only [Sem.run_bind, run_setObj_i (w := { w with drawn := n' }) _ q4, Result.andThen, Sem.run_pure, hjb]
      · refine Rep.tup #[.bool true, L[c].key, L[c].val] rfl (fun i hi => ?_)
        match i, hi with
        | 0, _ => exact .val rfl
        | 1, _ => exact (E1.trans E2).rep H.ev.rel b3
        | 2, _ => exact (E1.trans E2).rep H.ev.rel b4
end
end Am
