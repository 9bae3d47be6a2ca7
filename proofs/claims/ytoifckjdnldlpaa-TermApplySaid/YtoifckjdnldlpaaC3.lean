/- A function's contract from its body. -/
import Derived.Test.YtoifckjdnldlpaaC2
set_option linter.unusedVariables false
set_option linter.unusedSimpArgs false
namespace Am
open Go
section
variable {P : Program} {cf : Cfg} {fz : Fz} {b : Base} {env : Env} {loc : Loc} {h : Heap} {a : Act} {w : World} {C : Cx} {β : Nat → Option Nat} {k : K} {o : Oper}
/-- What a result variable gives. -/
def resOne (tmps : Array Value) : ResultVar → Sem Value
  | .tmp t => pure (tmps.getD t undef)
  | .cell a t => do loadVar t (← asAddr (tmps.getD a undef))
noncomputable def resTy (cf : Cfg) (rs : List ResultVar) : Bool := List.rec true (fun r _ ih => match r with
  | .tmp _ => ih
  | .cell _ t => match pos (cf.ty t).sz with
    | true => ih
    | false => false) rs
theorem load_loc (HT : TabOk P cf) (H : SR b env loc h a w C β) {t : TypeId} (hty : pos (cf.ty t).sz = true) {u off : Nat} {cs : List AV} {v : Value} (hx : TRep w C β (.loc u off) v) (hcs : lkp loc u = some cs) {kk : List AV → Prop} {kv : AV → Prop}
    (hk : match (cf.ty t).agg with | true => takeK (cs.drop off) (cf.ty t).sz kk | false => takeK (cs.drop off) 1 fun cs => kv (g cs 0)) :
    ∃ r y, (do loadVar t (← asAddr v) : Sem Value).run P w = .ok r w ∧ ((∃ cs, y = .agg cs ∧ kk cs ∧ (cf.ty t).agg = true) ∨ (kv y ∧ (cf.ty t).agg = false)) ∧ Rep w C y r := by
  obtain ⟨i, z, d, F⟩ := tyCheck_f (HT.2 t hty)
  have hpos := pos_lt hty
  obtain ⟨x0, h1, h2⟩ := hx
  obtain ⟨x1, h3, h4, h5, h6, h7⟩ := H.vars u cs hcs
  rw [h1] at h3; cases h3
  obtain ⟨vs, h8, h9⟩ := h7.cells off
  split at hk
  · rename_i ha
    obtain ⟨h10, h11⟩ := takeK_elim hk
    obtain ⟨r, h12, h13, _⟩ := run_loadVar_f F vs h10 h8 h9
    refine ⟨r, .agg ((cs.drop off).take (cf.ty t).sz), ?_, .inl ⟨_, rfl, h11, ha⟩, (h13 ha).2⟩
    simp [h2, asAddr, h12]
  · rename_i ha
    obtain ⟨h10, h11⟩ := takeK_elim hk
    obtain ⟨r, h12, _, h13⟩ := run_loadVar_f F vs (by rw [F.sz1 ha]; exact h10) h8 h9
    have hg : g ((cs.drop off).take 1) 0 = g (cs.drop off) 0 := by simp [g, List.getD_eq_getElem?_getD, List.getElem?_take]
    rw [hg] at h11
    refine ⟨r, g (cs.drop off) 0, ?_, .inr ⟨h11, ha⟩, h13 ha⟩
    simp [h2, asAddr, h12]
theorem loadG_elim {sz : Nat} {p : AV} {k : List AV → Prop} (hk : loadG sz p h k) : (∃ cs, p = .ro cs ∧ sz ≤ cs.length ∧ k cs) ∨ ∃ id ix off z els, p = .op id ix off ∧ h id = some (.arr z els) ∧ ix < els.length ∧ off + sz ≤ z ∧ k ((els.getD ix []).drop off) := by
  unfold loadG at hk
  split at hk
  · exact .inl ⟨_, rfl, hk⟩
  · split at hk
    · rename_i hh; exact .inr ⟨_, _, _, _, _, rfl, hh, hk⟩
    · exact hk.elim
  · exact hk.elim
theorem loadV_elim {p : AV} {k : AV → Prop} (hk : loadV p h k) : (∃ cs, p = .ro cs ∧ 0 < cs.length ∧ k (g cs 0)) ∨ ∃ id ix off z els, p = .op id ix off ∧ h id = some (.arr z els) ∧ ix < els.length ∧ off < z ∧ k (g (els.getD ix []) off) := by
  unfold loadV at hk
  split at hk
  · exact .inl ⟨_, rfl, hk⟩
  · split at hk
    · rename_i hh; exact .inr ⟨_, _, _, _, _, rfl, hh, hk⟩
    · exact hk.elim
  · exact hk.elim
theorem load_av (HT : TabOk P cf) (H : SR b env loc h a w C β) {t : TypeId} (hty : pos (cf.ty t).sz = true) {p : AV} {v : Value} (hx : Rep w C p v) {kk : List AV → Prop} {kv : AV → Prop}
    (hk : match (cf.ty t).agg with | true => loadG (cf.ty t).sz p h kk | false => loadV p h kv) :
    ∃ r y, (do loadVar t (← asAddr v) : Sem Value).run P w = .ok r w ∧ ((∃ cs, y = .agg (gets cs 0 (cf.ty t).sz) ∧ kk cs ∧ (cf.ty t).agg = true) ∨ (kv y ∧ (cf.ty t).agg = false)) ∧ Rep w C y r := by
  obtain ⟨i, z, d, F⟩ := tyCheck_f (HT.2 t hty)
  have hpos := pos_lt hty
  split at hk
  · rename_i ha
    rcases loadG_elim hk with ⟨cs, rfl, h1, h2⟩ | ⟨id, ix, off, zz, els, rfl, hh, h1, h2, h3⟩
    · cases hx with
      | ro vs him hc hr =>
        obtain ⟨r, h12, h13, _⟩ := run_loadVar_f F vs h1 hc hr
        refine ⟨r, _, ?_, .inl ⟨_, rfl, h2, ha⟩, (h13 ha).1⟩
        simp [asAddr, h12]
    · obtain ⟨ow, h4, h5, h6⟩ := H.ev.rel.own id _ hh
      cases hx with
      | op hm =>
        rw [h4] at hm; cases hm
        obtain ⟨vs, h8, h9⟩ := ARel.cells h6 ix off h1
        obtain ⟨r, h12, h13, _⟩ := run_loadVar_f F vs (by rw [List.length_drop, h6.2.1 ix h1]; omega) h8 h9
        refine ⟨r, _, ?_, .inl ⟨_, rfl, h3, ha⟩, (h13 ha).1⟩
        simp [asAddr, h12]
  · rename_i ha
    rcases loadV_elim hk with ⟨cs, rfl, h1, h2⟩ | ⟨id, ix, off, zz, els, rfl, hh, h1, h2, h3⟩
    · cases hx with
      | ro vs him hc hr =>
        obtain ⟨r, h12, _, h13⟩ := run_loadVar_f F vs (by rw [F.sz1 ha]; omega) hc hr
        refine ⟨r, _, ?_, .inr ⟨h2, ha⟩, h13 ha⟩
        simp [asAddr, h12]
    · obtain ⟨ow, h4, h5, h6⟩ := H.ev.rel.own id _ hh
      cases hx with
      | op hm =>
        rw [h4] at hm; cases hm
        obtain ⟨vs, h8, h9⟩ := ARel.cells h6 ix off h1
        obtain ⟨r, h12, _, h13⟩ := run_loadVar_f F vs (by rw [List.length_drop, h6.2.1 ix h1, F.sz1 ha]; omega) h8 h9
        have := h13 ha
        rw [g_drop, Nat.add_zero] at this
        refine ⟨r, _, ?_, .inr ⟨h3, ha⟩, this⟩
        simp [asAddr, h12]
theorem resK_elim (HT : TabOk P cf) (H : SR b env loc h a w C β) : ∀ {rs : List ResultVar} {k : List AV → Prop}, resTy cf rs = true → resK cf env loc h rs k →
    ∃ vs us, vs.length = rs.length ∧ us.length = rs.length ∧ (rs.mapM (resOne a.tmps)).run P w = .ok us w ∧ (∀ j, j < vs.length → Rep w C (g vs j) (us.getD j undef)) ∧ k vs
  | [], k, hty, hk => ⟨[], [], rfl, rfl, rfl, by simp, hk⟩
  | .tmp t :: rs, k, hty, hk => by
    obtain ⟨v, hv, hk1⟩ := asAV_rep (x := .tmp t) H hk
    obtain ⟨vs, us, h1, h2, h3, h4, h5⟩ := resK_elim HT H (rs := rs) hty hk1
    refine ⟨v :: vs, a.tmps.getD t undef :: us, by simp [h1], by simp [h2], ?_, fun j hj => ?_, h5⟩
    · simp [List.mapM_cons, resOne, h3]
    · cases j with
      | zero => exact hv
      | succ j => exact h4 j (by simpa using hj)
  | .cell t ty :: rs, k, hty, hk => by
    have hty1 : (match pos (cf.ty ty).sz with | true => resTy cf rs | false => false) = true := hty
    split at hty1
    case h_2 => cases hty1
    rename_i hp
    have fin : ∀ {r : Value} {y : AV}, (do loadVar ty (← asAddr (a.tmps.getD t undef)) : Sem Value).run P w = .ok r w → Rep w C y r → resK cf env loc h rs (fun vs => k (y :: vs)) →
        ∃ vs us, vs.length = (ResultVar.cell t ty :: rs).length ∧ us.length = (ResultVar.cell t ty :: rs).length ∧ ((ResultVar.cell t ty :: rs).mapM (resOne a.tmps)).run P w = .ok us w ∧ (∀ j, j < vs.length → Rep w C (g vs j) (us.getD j undef)) ∧ k vs := by
      intro r y hr hrep hk1
      obtain ⟨vs, us, h1, h2, h3, h4, h5⟩ := resK_elim HT H (rs := rs) hty1 hk1
      refine ⟨y :: vs, r :: us, by simp [h1], by simp [h2], ?_, fun j hj => ?_, h5⟩
      · have hr' : (resOne a.tmps (.cell t ty)).run P w = .ok r w := hr
        rw [List.mapM_cons]
        simp [hr', h3]
      · cases j with
        | zero => exact hrep
        | succ j => exact h4 j (by simpa using hj)
    have hx := ev_rep H (.tmp t)
    have hk1 : (match nth env t with
      | .loc u off => match lkp loc u with
        | some cs => match (cf.ty ty).agg with
          | true => takeK (cs.drop off) (cf.ty ty).sz fun cs => resK cf env loc h rs fun vs => k (.agg cs :: vs)
          | false => takeK (cs.drop off) 1 fun cs => resK cf env loc h rs fun vs => k (g cs 0 :: vs)
        | none => FF
      | .av p => match (cf.ty ty).agg with
        | true => loadG (cf.ty ty).sz p h fun cs => resK cf env loc h rs fun vs => k (.agg (gets cs 0 (cf.ty ty).sz) :: vs)
        | false => loadV p h fun v => resK cf env loc h rs fun vs => k (v :: vs)
      | _ => FF) := hk
    split at hk1
    · rename_i u off he
      have hx' : TRep w C β (.loc u off) (a.tmps.getD t undef) := he ▸ hx
      split at hk1
      · rename_i cs hcs
        obtain ⟨r, y, h1, h2, h3⟩ := load_loc HT H hp hx' hcs (kk := fun cs => resK cf env loc h rs fun vs => k (.agg cs :: vs)) (kv := fun v => resK cf env loc h rs fun vs => k (v :: vs)) hk1
        rcases h2 with ⟨cs, rfl, h2, _⟩ | ⟨h2, _⟩
        · exact fin h1 h3 h2
        · exact fin h1 h3 h2
      · exact (show False from hk1).elim
    · rename_i p he
      have hx' : Rep w C p (a.tmps.getD t undef) := by
        have : TRep w C β (.av p) (a.tmps.getD t undef) := he ▸ hx
        exact this
      obtain ⟨r, y, h1, h2, h3⟩ := load_av HT H hp hx' (kk := fun cs => resK cf env loc h rs fun vs => k (.agg (gets cs 0 (cf.ty ty).sz) :: vs)) (kv := fun v => resK cf env loc h rs fun vs => k (v :: vs)) hk1
      rcases h2 with ⟨cs, rfl, h2, _⟩ | ⟨h2, _⟩
      · exact fin h1 h3 h2
      · exact fin h1 h3 h2
    · exact (show False from hk1).elim
theorem deadsK_eq : ∀ (n : Nat) (k : List TV → Prop), deadsK n k = k (List.replicate n .dead)
  | 0, k => rfl
  | n + 1, k => by simp only [deadsK, deadsK_eq n, List.replicate_succ]
theorem envK_eq : ∀ (xs : List AV) (n : Nat) (k : List TV → Prop), envK xs n k = k (xs.map .av ++ List.replicate (n - xs.length) .dead)
  | [], n, k => by simp [envK, deadsK_eq]
  | x :: xs, n, k => by
    simp only [envK, envK_eq xs, List.map_cons, List.cons_append, List.length_cons]
    congr 4
    omega
theorem acalls (HT : TabOk P cf) (hm : P.follows .mixedOrders = true) {f : FuncId} {fn : Func} {c : Code} {args : List AV} {Q : AV → Heap → Prop} (hf : P.funcs[f]? = some fn) (hb : fn.body = some c) (hn : (fn.name == "runtime.NumGoroutine") = false)
    (hr : RegOk P cf c) (hres : resTy cf fn.results.toList = true) (hk : abody P cf fn args h Q) : ACalls P f args h Q := by
  refine ⟨⟨fn, c, hf, hb, hn⟩, fun w C vs HM hsz hrep => ?_⟩
  have hk' : (match fn.body with | some c => envK args fn.ntmps fun env => awp P cf c ⟨none, [], [], false, []⟩ (retQ cf fn.results.toList Q) env [] h | none => FF) := hk
  rw [hb] at hk'
  simp only [envK_eq] at hk'
  have H : SR ⟨w, C, h⟩ (args.map .av ++ List.replicate (fn.ntmps - args.length) .dead) [] h { tmps := vs ++ Array.replicate (fn.ntmps - vs.size) undef, defers := [] } w C (fun _ => none) := by
    refine ⟨rfl, by simp [hsz], fun t ht => ?_, fun t u off he => ?_, Ev.refl HM, fun t cs hcs => (by cases hcs), fun t t' cs cs' x h1 => (by cases h1)⟩
    · by_cases h1 : t < args.length
      · have e1 : nth (args.map TV.av ++ List.replicate (fn.ntmps - args.length) .dead) t = .av (g args t) := by
          rw [nth_eq, getD_app_l (by simpa using h1)]
          simp [List.getD_eq_getElem?_getD, h1, g]
        have e2 : (vs ++ Array.replicate (fn.ntmps - vs.size) undef).getD t undef = vs.getD t undef := by
          simp [Array.getD_eq_getD_getElem?, Array.getElem?_append, show t < vs.size by omega]
        rw [e1, e2]
        exact hrep t h1
      · have e1 : nth (args.map TV.av ++ List.replicate (fn.ntmps - args.length) .dead) t = .dead := by
          rw [nth_eq, getD_app_r (by simp; omega)]
          simp [List.getD_eq_getElem?_getD, List.getElem?_replicate]
          split <;> rfl
        rw [e1]; trivial
    · by_cases h1 : t < args.length
      · have e1 : nth (args.map TV.av ++ List.replicate (fn.ntmps - args.length) .dead) t = .av (g args t) := by
          rw [nth_eq, getD_app_l (by simpa using h1)]
          simp [List.getD_eq_getElem?_getD, h1, g]
        rw [e1] at he; cases he
      · have e1 : nth (args.map TV.av ++ List.replicate (fn.ntmps - args.length) .dead) t = .dead := by
          rw [nth_eq, getD_app_r (by simp; omega)]
          simp [List.getD_eq_getElem?_getD, List.getElem?_replicate]
          split <;> rfl
        rw [e1] at he; cases he
  refine calls_of_wp hf hb (wp_mono (awp_sound HT hm c hr H ⟨fun t u off ht => (by cases ht), fun t ht => (by cases ht)⟩ hk') fun e a w' hp => ?_)
  have fin : ∀ {env' : Env} {loc' : Loc} {h' : Heap} {C' : Cx} {β' : Nat → Option Nat}, SR ⟨w, C, h⟩ env' loc' h' a w' C' β' → resK cf env' loc' h' fn.results.toList (fun vs => retA (retV vs) h' Q) →
      a.defers = [] ∧ ∃ v, (results fn a.tmps).run P w' = .ok v w' ∧ ∃ v' C' h' r, Ending.returned v = .returned v' ∧ Ev w C h w' C' h' ∧ Rep w' C' r v' ∧ Q r h' := by
    intro env' loc' h' C' β' H' hq
    obtain ⟨xs, us, h1, h2, h3, h4, h5⟩ := resK_elim HT H' hres hq
    refine ⟨H'.dfr, ?_⟩
    have hrun : (results fn a.tmps).run P w' = .ok (if h : us.toArray.size = 1 then us.toArray[0] else .tuple us.toArray) w' := by
      have e : results fn a.tmps = (do let vs ← List.toArray <$> fn.results.toList.mapM (resOne a.tmps); pure (if h : vs.size = 1 then vs[0] else .tuple vs)) := by
        unfold results
        rw [← Array.mapM_eq_mapM_toList]
        rfl
      rw [e]
      simp only [Sem.run_bind, Sem.run_map, h3, Result.andThen]
      rfl
    refine ⟨_, hrun, ?_⟩
    obtain ⟨σ', h2', hh, w1, w2, w3⟩ := h5
    have E := HRef.sound H'.ev.rel hh
    have hR := w2 0 (by simp)
    have hl1 : 0 < σ'.length := by rw [w1]; simp
    refine ⟨_, _, h2', _, rfl, H'.ev.trans E, ?_, w3⟩
    refine hR.sound H'.ev.rel ?_
    show Rep w' C' (retV xs) _
    have hxu : xs.length = us.length := by rw [h1, h2]
    by_cases h6 : us.length = 1
    · obtain ⟨x, rfl⟩ := List.length_eq_one_iff.1 (hxu.trans h6)
      obtain ⟨u, rfl⟩ := List.length_eq_one_iff.1 h6
      exact h4 0 (by simp)
    · rw [dif_neg (by simpa using h6)]
      have e : retV xs = .tup xs := by
        unfold retV
        split
        · rename_i v; simp at hxu; omega
        · rfl
      rw [e]
      exact Rep.tup _ (by simp [hxu]) (fun j hj => by
        have := h4 j hj
        simpa [g, Array.getD_eq_getD_getElem?, List.getD_eq_getElem?_getD] using this)
  cases e with
  | normal =>
    obtain ⟨env', loc', h', C', β', H', K', hq⟩ := hp
    exact fin H' hq
  | ret =>
    obtain ⟨env', loc', h', C', β', H', K', hq⟩ := hp
    exact fin H' hq
  | exit i =>
    obtain ⟨env', loc', h', C', β', H', K', hq⟩ := hp
    exact (show False from hq).elim
  | goto l => exact hp.elim
  | panic c => exact hp.elim
  | outgrown => exact hp.elim
end
end Am
