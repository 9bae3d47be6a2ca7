/- begin: a place is taken up. -/
import Derived.Test.YtoifckjdnldlpaaGreatZFc
set_option linter.unusedVariables false
set_option linter.unusedSimpArgs false
namespace Am
open Go Go.Proofs.Tryz
def clB (P : Nat) (p : Pc) (t : Tm) : AV := .fn 155 [.ro [.op P 0 0], .ro (plC p), .ro [.ro (tmC t)]]
theorem clB_fz (P : Nat) (p : Pc) (t : Tm) : Fz0 (clB P p t) := ⟨155, _, rfl, fun y hy => by
  simp only [List.mem_cons, List.not_mem_nil, or_false] at hy
  rcases hy with rfl | rfl | rfl <;> exact ⟨_, rfl⟩⟩
def St.beg1 (s : Sch) (σ : St) (p : Pc) : St := { σ with bg := σ.bg ++ [p], kw := match keyOf s p with
  | some k => insK σ.kw k
  | none => σ.kw }
def St.beg (s : Sch) (P : Nat) (σ : St) (p : Pc) : St := (σ.beg1 s p).push (if (ndS s p).1.lab.1 = 1 then [clB P p (ndS s p).1] else [])
theorem wt_snoc (s : Sch) (bg : List Pc) (p k : Pc) : wtOf s (bg ++ [p]) k = if keyOf s p = some k then wtOf s bg k ++ [p] else wtOf s bg k := by
  simp only [wtOf, List.filter_append]
  by_cases e : keyOf s p = some k <;> simp [e]
theorem StOk.beg1 {s : Sch} {σ : St} (V : StOk s σ) {p : Pc} (hp : okP s p) (hn : p ∉ σ.bg) : StOk s (σ.beg1 s p) where
  bgn := by
    show (σ.bg ++ [p]).Nodup
    rw [List.nodup_append]
    exact ⟨V.bgn, by simp, fun a ha b hb => by
      have : b = p := by simpa using hb
      subst this; rintro rfl; exact hn ha⟩
  hln := V.hln
  cln := V.cln
  kwn := by
    simp only [St.beg1]
    cases keyOf s p with
    | none => exact V.kwn
    | some k => exact insK_nodup V.kwn
  kin := V.kin
  kw k := by
    simp only [St.beg1, wt_snoc]
    cases hk : keyOf s p with
    | none => simpa using V.kw k
    | some k' =>
      simp only [insK_mem]
      by_cases e : k' = k
      · subst e; simp
      · have e1 : ¬ k = k' := fun h => e h.symm
        have e2 : ¬ some k' = some k := by simpa using e
        simp only [e1, e2, or_false, if_false]
        exact V.kw k
  ki := V.ki
  hlb e he := by
    show e.1 ∈ σ.bg ++ [p]
    exact List.mem_append.2 (.inl (V.hlb e he))
  bgo q hq := by
    rcases List.mem_append.1 hq with hq | hq
    · exact V.bgo q hq
    · have : q = p := by simpa using hq
      subst this; exact hp
  wn := V.wn
  wf := V.wf
  jf := V.jf
theorem StOk.beg {s : Sch} {σ : St} (V : StOk s σ) (P : Nat) {p : Pc} (hp : okP s p) (hn : p ∉ σ.bg) : StOk s (σ.beg s P p) := by
  refine (V.beg1 hp hn).push fun x hx => ?_
  by_cases e : (ndS s p).1.lab.1 = 1
  · rw [if_pos e] at hx
    have : x = clB P p (ndS s p).1 := by simpa using hx
    subst this; exact clB_fz _ _ _
  · rw [if_neg e] at hx; cases hx
section
variable {hb h : Heap} {s : Sch} {bl : List Bool} {σ : St} {l : Lo}
theorem hb_none {c : Con} (R : RC hb c l h) {i : Nat} (hi : h i = none) : hb i = none := by
  cases e : hb i with
  | none => rfl
  | some n => rw [R.fr i n e] at hi; cases hi
theorem set_none {h : Heap} {i j : Nat} {n : Node} (hi : (h.set i n) j = none) : j ≠ i ∧ h j = none := by
  have : j ≠ i := fun e => by subst e; rw [Heap.set_same] at hi; cases hi
  exact ⟨this, by rwa [Heap.set_ne this] at hi⟩
theorem begin_c (V : StOk s σ) (R : RC hb (conS s bl σ l) l h) {p : Pc} (hp : okP s p) (hpn : p ∉ σ.bg) (hv : (ndS s p).1.lab.1 = 0 → 0 ≤ (ndS s p).1.lab.2) (hs1 : σ.wk.length ≤ 1000000) (hs2 : σ.bg.length ≤ 1000000) {Q : AV → Heap → Prop}
    (hq : ∀ l' h', l' .pa = l .pa → RC hb (conS s bl (σ.beg s (l .pa) p) l') l' h' → Q (.tup []) h') : ACalls prog n_flow_analysis_begin [.op (l .pa) 0 0, kC p] h Q := by
  refine ACalls.wk (ACalls.wk ?_)
  refine flow_analysis_begin_call ?_
  unfold flow_analysis_begin
  rw [w_one_op]
  intro i1 hi1
  simp only [w_agg, List.length_cons, List.length_nil, true_and, g_0, g_1]
  intro i4 hi4
  have hb1 := hb_none R hi1
  have Ra := R.newBase (.arr 1 [[.op (l .pa) 0 0]]) hi1
  have n41 := (set_none hi4).1
  have hb4 : hb i4 = none := hb_none R (set_none hi4).2
  have Rb := Ra.newBase (.arr 2 [plC p]) hi4
  generalize (h.set i1 (.arr 1 [[.op (l .pa) 0 0]])).set i4 (.arr 2 [plC p]) = h1 at *
  have x1 : h1 i1 = some (.arr 1 [[.op (l .pa) 0 0]]) := Rb.fr i1 _ (by rw [Heap.set_ne n41.symm]; exact Heap.set_same _ _ _)
  have x4 : h1 i4 = some (.arr 2 [plC p]) := Rb.fr i4 _ (Heap.set_same _ _ _)
  have xa : h1 (l .pa) = some (.arr 10 [paC s bl σ l]) := Rb.own .pa _ rfl
  refine rdA (x := .rs 1 (NS s)) x1 xa (by omega) rfl ?_
  rw [w_fld_op, Nat.zero_add]
  refine ld (x := I (p.1 : Nat)) x4 (by omega) rfl ?_
  refine ix_rs (by rw [NS_len]; exact hp.1) (NS_get hp.1) ?_
  rw [w_loadV_ro, w_fld_op, Nat.zero_add]
  refine ld (x := I (p.2 : Nat)) x4 (by omega) rfl ?_
  refine ix_rs (by rw [ndCs_len, ndF_len]; exact hp.2) (nd_get hp) ?_
  generalize et : (ndS s p).1 = t at *
  simp only [ndC, et, w_fld_ro, List.drop_zero, w_loadV_ro, true_and]
  intro i5 hi5
  have hb5' := hb_none Rb hi5
  have n54 := (set_none hb5').1
  have n51 := (set_none (set_none hb5').2).1
  have hb5 := (set_none (set_none hb5').2).2
  have n5 : ∀ {j n}, h1 j = some n → j ≠ i5 := fun {j n} hj e => by subst e; rw [hi5] at hj; cases hj
  have y1 : ∀ n, (h1.set i5 n) i1 = some (.arr 1 [[.op (l .pa) 0 0]]) := fun n => by rw [Heap.set_ne (n5 x1)]; exact x1
  have y4 : ∀ n, (h1.set i5 n) i4 = some (.arr 2 [plC p]) := fun n => by rw [Heap.set_ne (n5 x4)]; exact x4
  have ya : ∀ n, (h1.set i5 n) (l .pa) = some (.arr 10 [paC s bl σ l]) := fun n => by rw [Heap.set_ne (n5 xa)]; exact xa
  refine ⟨ld (y1 _) (by omega) rfl rfl, ld (ya _) (by omega) rfl rfl, ld (x := I (p.1 : Nat)) (y4 _) (by omega) rfl rfl, ix_rs (by rw [NS_len]; exact hp.1) (NS_get hp.1) rfl, ld (x := I (p.2 : Nat)) (y4 _) (by omega) rfl rfl, ix_rs (cs := [.ro (tmC t), .rs 1 (nCs (ndS s p).2)]) (by rw [ndCs_len, ndF_len]; exact hp.2) (by rw [nd_get hp, ndC, et]) rfl, ?_⟩
  rw [w_one_ro]
  refine st_at (Heap.set_same _ _ _) (by omega) ?_
  rw [Heap.set_set]
  have est : ([.val (.pointer none)] : List AV).set 0 (.ro (tmC t)) = [.ro (tmC t)] := rfl
  rw [est]
  have Rc := Rb.newBase (.arr 1 [[.ro (tmC t)]]) hi5
  have x1 := y1 (.arr 1 [[.ro (tmC t)]])
  have x4 := y4 (.arr 1 [[.ro (tmC t)]])
  have xa := ya (.arr 1 [[.ro (tmC t)]])
  have x5 : (h1.set i5 (.arr 1 [[.ro (tmC t)]])) i5 = some (.arr 1 [[.ro (tmC t)]]) := Heap.set_same _ _ _
  clear y1 y4 ya n5 Ra Rb
  generalize h1.set i5 (.arr 1 [[.ro (tmC t)]]) = h2 at *
  generalize ehb : ((hb.set i1 (.arr 1 [[.op (l .pa) 0 0]])).set i4 (.arr 2 [plC p])).set i5 (.arr 1 [[.ro (tmC t)]]) = hb3 at *
  have xh : h2 (l .mh) = some (mpN σ.bg fun p => .mp (l (.hm p))) := Rc.own .mh _ rfl
  refine rdA x1 xa (by omega) rfl ?_
  rw [w_loadG_op x4]
  refine ⟨by simp, by omega, ?_⟩
  intro m hm
  have Rd := Rc.mk' (.hm p) (.map []) hm
  have nm : ∀ {j n}, h2 j = some n → j ≠ m := fun {j n} hj e => by subst e; rw [hm] at hj; cases hj
  have y1 : ∀ n, (h2.set m n) i1 = some (.arr 1 [[.op (l .pa) 0 0]]) := fun n => by rw [Heap.set_ne (nm x1)]; exact x1
  have y4 : ∀ n, (h2.set m n) i4 = some (.arr 2 [plC p]) := fun n => by rw [Heap.set_ne (nm x4)]; exact x4
  have ya : ∀ n, (h2.set m n) (l .pa) = some (.arr 10 [paC s bl σ l]) := fun n => by rw [Heap.set_ne (nm xa)]; exact xa
  refine ⟨ld (y1 _) (by omega) rfl rfl, ld (ya _) (by omega) rfl rfl, by rw [w_loadG_op (y4 _)]; exact ⟨by simp, by omega, rfl⟩, ?_⟩
  rw [w_one_mp]
  have xh' : (h2.set m (.map [])) (l .mh) = some (mpN σ.bg fun p => .mp (l (.hm p))) := by rw [Heap.set_ne (nm xh)]; exact xh
  refine upd_c (k := p) V.bgn xh' ?_
  have Re := Rd.upd (a := .mh) (mpN (insK σ.bg p) (updV (fun p => .mp (l (.hm p))) p (.mp m))) (m := mpN σ.bg fun p => .mp (l (.hm p))) (by simp [Con.set, conS])
  rw [Lo.set_ne (by simp)] at Re
  generalize (h2.set m (.map [])).set (l .mh) (mpN (insK σ.bg p) (updV (fun p => .mp (l (.hm p))) p (.mp m))) = h3 at *
  generalize hl1 : l.set (.hm p) m = l1 at *
  have l1n : ∀ a, a ≠ .hm p → l1 a = l a := fun a ha => by rw [← hl1, Lo.set_ne ha]
  have l1p : l1 (.hm p) = m := by rw [← hl1, Lo.set_same]
  clear y1 y4 ya nm hm x1 x4 xa x5 xh xh' Rc Rd
  have x1 : h3 i1 = some (.arr 1 [[.op (l .pa) 0 0]]) := Re.fr i1 _ (by rw [← ehb, Heap.set_ne n51.symm, Heap.set_ne n41.symm]; exact Heap.set_same _ _ _)
  have x4 : h3 i4 = some (.arr 2 [plC p]) := Re.fr i4 _ (by rw [← ehb, Heap.set_ne n54.symm]; exact Heap.set_same _ _ _)
  have x5 : h3 i5 = some (.arr 1 [[.ro (tmC t)]]) := Re.fr i5 _ (by rw [← ehb]; exact Heap.set_same _ _ _)
  have xa : h3 (l .pa) = some (.arr 10 [paC s bl σ l]) := by
    have := Re.own .pa (.arr 10 [paC s bl σ l]) (by simp [Con.set, conS])
    rwa [l1n _ (by simp)] at this
  have epk : pick σ.hl p = [] := by
    cases e : pick σ.hl p with
    | nil => rfl
    | cons q r => exact absurd (V.hlb (p, q) (mem_pick.1 (by rw [e]; simp))) hpn
  have drop3 : ∀ {c : Con} {l : Lo} {h : Heap}, RC hb3 c l h → RC hb c l h := fun {c l h} R => by
    subst ehb
    refine ⟨R.own, fun a n e => ?_, R.inj, fun j n hj => R.fr j n ?_⟩
    · exact (set_none (set_none (set_none (R.new a n e)).2).2).2
    · have m1 : j ≠ i1 := fun e => by subst e; rw [hb1] at hj; cases hj
      have m4 : j ≠ i4 := fun e => by subst e; rw [hb4] at hj; cases hj
      have m5 : j ≠ i5 := fun e => by subst e; rw [hb5] at hj; cases hj
      rw [Heap.set_ne m5, Heap.set_ne m4, Heap.set_ne m1]; exact hj
  -- a place that is no parameter
  have Rf : keyOf s p = none → RC hb3 (conS s bl (σ.beg1 s p) l1) l1 h3 := fun hk => Re.weak fun a n ha => by
    have ewt : ∀ k, wtOf s (σ.bg ++ [p]) k = wtOf s σ.bg k := fun k => by rw [wt_snoc, hk]; simp
    have e0 : σ.beg1 s p = { σ with bg := σ.bg ++ [p] } := by simp [St.beg1, hk]
    rw [e0] at ha
    cases a with
    | hm q =>
      by_cases e : q = p
      · subst e
        simpa [conS, epk, Con.set, mpN] using ha
      · simpa [conS, e, Con.set] using ha
    | mh =>
      have : mpN (σ.bg ++ [p]) (fun p => .mp (l1 (.hm p))) = mpN (insK σ.bg p) (updV (fun p => .mp (l (.hm p))) p (.mp m)) := by
        rw [insK, if_neg hpn]
        congr 1
        funext q
        by_cases e : q = p
        · subst e; simp [updV, l1p]
        · rw [l1n _ (by simpa using e)]; simp [updV, e]
      simp only [conS, this] at ha
      simpa [Con.set] using ha
    | pa =>
      have : paC s bl { σ with bg := σ.bg ++ [p] } l1 = paC s bl σ l := by simp [paC, wV, CSl, l1n]
      simp only [conS, this] at ha
      simpa [Con.set, conS] using ha
    | mw => simpa [conS, Con.set, ewt, l1n] using ha
    | wa k => simpa [conS, Con.set, ewt, l1n] using ha
    | _ => first | (simp [conS] at ha; done) | simpa [conS, Con.set, ewt, l1n] using ha
  refine ld (x := .ro (tmC t)) x5 (by omega) rfl ?_
  rw [w_nil_ro, w_fld_ro, List.drop_zero, tmC_eq, w_loadV_ro, w_eql, w_brA]
  have V1 := V.beg1 hp hpn
  by_cases k1 : t.lab.1 = 1
  · have hk : keyOf s p = none := by simp [keyOf, et, k1]
    have Rg := Rf hk
    have ebeg : σ.beg s (l .pa) p = (σ.beg1 s p).push [clB (l .pa) p t] := by simp [St.beg, et, k1]
    rw [ebeg] at hq
    have e0 : (σ.beg1 s p).wk = σ.wk ∧ (σ.beg1 s p).jk = σ.jk ∧ (σ.beg1 s p).wn = σ.wn ∧ (σ.beg1 s p).cl = σ.cl := ⟨rfl, rfl, rfl, rfl⟩
    generalize σ.beg1 s p = σ1 at *
    simp only [k1, decide_true, if_true]
    rw [← ehb] at Rg
    have R0 := Rg.ofBase (.tmp 5) (by rw [Heap.set_ne n54, Heap.set_ne n51]; exact hb5)
    have R0 := R0.ofBase (.tmp 4) (by rw [Heap.set_ne n41]; exact hb4)
    have R0 := R0.ofBase (.tmp 1) hb1
    clear Rg Re Rf
    obtain ⟨l2, hl2⟩ : ∃ l2, l2 = ((l1.set (.tmp 5) i5).set (.tmp 4) i4).set (.tmp 1) i1 := ⟨_, rfl⟩
    rw [← hl2] at R0
    have l2n : ∀ a, (∀ n, a ≠ .tmp n) → a ≠ .hm p → l2 a = l a := fun a ha hh => by rw [hl2, Lo.set_ne (ha 1), Lo.set_ne (ha 4), Lo.set_ne (ha 5), l1n a hh]
    have l2m : ∀ a, (∀ n, a ≠ .tmp n) → l2 a = l1 a := fun a ha => by rw [hl2, Lo.set_ne (ha 1), Lo.set_ne (ha 4), Lo.set_ne (ha 5)]
    have l21 : l2 (.tmp 1) = i1 := by rw [hl2, Lo.set_same]
    have l24 : l2 (.tmp 4) = i4 := by rw [hl2, Lo.set_ne (by simp), Lo.set_same]
    have l25 : l2 (.tmp 5) = i5 := by rw [hl2, Lo.set_ne (by simp), Lo.set_ne (by simp), Lo.set_same]
    let X : Con := ((Con.nil.set (.tmp 5) (.arr 1 [[.ro (tmC t)]])).set (.tmp 4) (.arr 2 [plC p])).set (.tmp 1) (.arr 1 [[.op (l .pa) 0 0]])
    have ec : conS s bl σ1 l2 = conS s bl σ1 l1 := by
      funext b; cases b <;> simp [conS, paC, wV, CSl, l2m]
    have R1 : RC hb (ovl (conS s bl σ1 l2) X) l2 h3 := R0.weak fun a n ha => by
      rw [ec] at ha
      cases a with
      | tmp m =>
        by_cases e1 : m = 1
        · subst e1; simpa [ovl, conS, X, Con.set] using ha
        by_cases e4 : m = 4
        · subst e4; simpa [ovl, conS, X, Con.set] using ha
        by_cases e5 : m = 5
        · subst e5; simpa [ovl, conS, X, Con.set] using ha
        · simp [ovl, conS, X, Con.set, Con.nil, e1, e4, e5] at ha
      | _ => first | (simp [ovl, conS, X, Con.set, Con.nil] at ha; done) | simpa [ovl, conS, X, Con.set, Con.nil] using ha
    clear R0
    refine ld (x := .op (l .pa) 0 0) x1 (by omega) rfl ?_
    refine rdA x1 xa (by omega) rfl ?_
    rw [w_one_fn]
    have hjf : ∀ id cs x, x ∈ σ1.jk → fzW id cs x = x := fun id cs x hx => (V1.jf x hx).fz id cs
    have hwf : ∀ id cs x, x ∈ σ1.wk → fzW id cs x = x := fun id cs x hx => (V1.wf x hx).fz id cs
    refine R1.app1 .wk (els := ones σ1.wk) ?_ (by rw [ones_len, e0.1]; omega) fun i h4 R2 => ?_
    · simp only [paC, g_s, g_0, wV]
      cases hwn : σ1.wn with
      | false =>
        rw [e0.2.2.1] at hwn
        exact .inl ⟨by simp [hwn], by rw [e0.1, V.wn hwn]; rfl⟩
      | true =>
        refine .inr ⟨σ1.wk.length, ones (σ1.wk ++ σ1.jk), ?_, by simp [ovl, conS, hwn], by simp, by rw [ones_app, ← ones_len, List.take_left]⟩
        rw [e0.2.2.1] at hwn
        rw [hwn, if_pos rfl, e0.1, l2n _ (by simp) (by simp)]
    have y1 : h4 i1 = some (.arr 1 [[.op (l .pa) 0 0]]) := by
      have := R2.own (.tmp 1) (.arr 1 [[.op (l .pa) 0 0]]) (by simp [ovl, conS, X, Con.set])
      rwa [Lo.set_ne (by simp), l21] at this
    have ya : h4 (l .pa) = some (.arr 10 [paC s bl σ1 l2]) := by
      have := R2.own .pa (.arr 10 [paC s bl σ1 l2]) (by simp [ovl, conS, Con.set])
      rwa [Lo.set_ne (by simp), l2n _ (by simp) (by simp)] at this
    refine ⟨ld (x := .op (l .pa) 0 0) y1 (by omega) rfl rfl, ?_⟩
    rw [w_nil_op, w_fld_op, w_one_os, Nat.zero_add]
    refine st_at ya (by omega) ?_
    have R3 := R2.upd (a := .pa) (.arr 10 [(paC s bl σ1 l2).set 8 (.os i ((ones σ1.wk).length + 1))]) (m := .arr 10 [paC s bl σ1 l2]) (by simp [ovl, conS, Con.set])
    rw [Lo.set_ne (by simp), l2n _ (by simp) (by simp)] at R3
    generalize h4.set (l .pa) (.arr 10 [(paC s bl σ1 l2).set 8 (.os i ((ones σ1.wk).length + 1))]) = h5 at *
    let raw : AV := .fn 155 [.op i1 0 0, .op i4 0 0, .op i5 0 0]
    generalize hl3 : l2.set .wk i = l3 at *
    have l3n : ∀ a, a ≠ .wk → l3 a = l2 a := fun a ha => by rw [← hl3, Lo.set_ne ha]
    have R4 : RC hb (ovl (conS s bl (σ1.push [raw]) l3) X) l3 h5 := R3.weak fun a n ha => by
      cases a with
      | wk =>
        have : ovl (conS s bl (σ1.push [raw]) l3) X .wk = some (.arr 1 (ones σ1.wk ++ [[raw]])) := by
          simp only [ovl, conS, St.push, List.isEmpty_cons, Bool.not_false, Bool.or_true, if_true, Option.some_or, Bool.false_eq_true, if_false, List.append_nil, ones_app, ones_one]
        rw [this] at ha
        simpa [Con.set] using ha
      | pa =>
        have : ovl (conS s bl (σ1.push [raw]) l3) X .pa = some (.arr 10 [(paC s bl σ1 l2).set 8 (.os i ((ones σ1.wk).length + 1))]) := by
          simp only [ovl, conS, Option.some_or]
          have e7 : wV (σ1.push [raw]) l3 = .os i ((ones σ1.wk).length + 1) := by
            simp [wV, St.push, ← hl3]
          have e9 : CSl s l3 = CSl s l2 := by simp [CSl, l3n]
          simp only [paC, e7, e9, l3n _ (show Ad.mh ≠ .wk by simp), l3n _ (show Ad.mw ≠ .wk by simp), l3n _ (show Ad.mi ≠ .wk by simp)]
          rfl
        rw [this] at ha
        simpa [Con.set] using ha
      | _ => first | (simp [ovl, conS, X, Con.set, Con.nil] at ha; done) | simpa [ovl, conS, X, Con.set, Con.nil, St.push, l3n] using ha
    clear R1 R2 R3
    have l31 : l3 (.tmp 1) = i1 := by rw [l3n _ (by simp), l21]
    have l34 : l3 (.tmp 4) = i4 := by rw [l3n _ (by simp), l24]
    have l35 : l3 (.tmp 5) = i5 := by rw [l3n _ (by simp), l25]
    obtain ⟨h6, r1, R5⟩ := R4.fzS (t := 5) (sz := 1) (cs := [.ro (tmC t)]) (by simp [X, Con.set]) rfl (by simp [X, Con.set, Con.nil])
    obtain ⟨h7, r2, R6⟩ := R5.fzS (t := 4) (sz := 2) (cs := plC p) (by simp [X, Con.set, Con.del]) rfl (by simp [X, Con.set, Con.nil, Con.del])
    obtain ⟨h8, r3, R7⟩ := R6.fzS (t := 1) (sz := 1) (cs := [.op (l .pa) 0 0]) (by simp [X, Con.set, Con.del]) rfl (by simp [X, Con.set, Con.nil, Con.del])
    refine retA_wk .refl r1 (Wk.one (Q := fun x h => Wk [x] h fun r h => Q (g r 0) h) .refl r2 (Wk.one .refl r3 ?_))
    rw [push_mapW _ _ (hwf _ _) (hjf _ _), push_mapW _ _ (hwf _ _) (hjf _ _), push_mapW _ _ (hwf _ _) (hjf _ _), l31, l34, l35] at R7
    have e3 : (([raw].map (fzW i5 [.ro (tmC t)])).map (fzW i4 (plC p))).map (fzW i1 [.op (l .pa) 0 0]) = [clB (l .pa) p t] := by
      simp [raw, clB, fzW, fzA, n41.symm, n51.symm, n54.symm]
    rw [e3] at R7
    refine hq l3 h8 (by rw [l3n _ (by simp), l2n _ (by simp) (by simp)]) (R7.weak fun a n ha => ?_)
    show (conS s bl (σ1.push [clB (l .pa) p t]) l3 a).or _ = some n
    rw [ha]; rfl
  have ebeg : σ.beg s (l .pa) p = σ.beg1 s p := by simp [St.beg, et, k1]
  rw [ebeg] at hq
  simp only [k1, decide_false, Bool.false_eq_true, if_false]
  rw [w_eql, w_brA]
  by_cases k0 : t.lab.1 = 0
  · simp only [k0, decide_true, if_true]
    have h0 := hv k0
    obtain ⟨k, ek⟩ : ∃ k : Pc, k = (p.1, t.lab.2.toNat) := ⟨_, rfl⟩
    have hkey : keyOf s p = some k := by simp [keyOf, et, k0, ek]
    have xw : h3 (l .mw) = some (mpN σ.kw fun k => .os (l (.wa k)) (wtOf s σ.bg k).length) := by
      have := Re.own .mw (mpN σ.kw fun k => .os (l (.wa k)) (wtOf s σ.bg k).length) (by simp [Con.set, conS])
      rwa [l1n _ (by simp)] at this
    rw [w_fld_op, Nat.zero_add]
    refine ld (x := I (p.1 : Nat)) x4 (by omega) rfl ?_
    refine ld (x := .ro (tmC t)) x5 (by omega) rfl ?_
    rw [w_nil_ro, w_fld_ro, tmC_eq, List.drop_succ_cons, List.drop_zero, w_loadV_ro, w_one_v, w_one_v]
    refine rdA x1 xa (by omega) rfl ?_
    rw [w_loadG_op x4]
    refine ⟨by simp, by omega, ?_⟩
    have e2 : (AV.agg [I (p.1 : Nat), I t.lab.2]) = kC k := by rw [ek]; simp [Int.toNat_of_nonneg h0]
    rw [e2]
    refine ent_c V.kwn xw fun ix hix hixk => ?_
    refine tp0 (tp1 ?_)
    generalize ev0 : (if k ∈ σ.kw then AV.os (l (.wa k)) (wtOf s σ.bg k).length else .e0) = v0 at *
    have Rg := Re.upd (a := .mw) (mpN (insK σ.kw k) (updV (fun k => .os (l (.wa k)) (wtOf s σ.bg k).length) k v0)) (m := mpN σ.kw fun k => .os (l (.wa k)) (wtOf s σ.bg k).length) (by simp [Con.set, conS])
    rw [l1n _ (by simp)] at Rg
    generalize h3.set (l .mw) (mpN (insK σ.kw k) (updV (fun k => .os (l (.wa k)) (wtOf s σ.bg k).length) k v0)) = h4 at *
    have hwl : (wtOf s σ.bg k).length ≤ σ.bg.length := List.length_filter_le _ _
    refine Rg.app1 (.wa k) (els := (wtOf s σ.bg k).map plC) ?_ (by rw [List.length_map]; omega) fun i h5 Rh => ?_
    · rw [← ev0]
      by_cases e : k ∈ σ.kw
      · exact .inr ⟨_, (wtOf s σ.bg k).map plC, by rw [if_pos e, l1n _ (by simp)], by simp [Con.set, conS, e], by simp, by rw [List.take_of_length_le (by simp)]⟩
      · have : wtOf s σ.bg k = [] := by
          have := mt (V.kw k).2 e
          simpa using this
        exact .inl ⟨by rw [if_neg e], by rw [this]; rfl⟩
    rw [w_one_os]
    have xw : h5 (l .mw) = some (mpN (insK σ.kw k) (updV (fun k => .os (l (.wa k)) (wtOf s σ.bg k).length) k v0)) := by
      have := Rh.own .mw (mpN (insK σ.kw k) (updV (fun k => .os (l (.wa k)) (wtOf s σ.bg k).length) k v0)) (by simp [Con.set])
      rwa [Lo.set_ne (by simp), l1n _ (by simp)] at this
    refine entS_c (insK_nodup V.kwn) xw hix hixk ?_
    have Ri := Rh.upd (a := .mw) (mpN (insK σ.kw k) (updV (updV (fun k => .os (l (.wa k)) (wtOf s σ.bg k).length) k v0) k (.os i (((wtOf s σ.bg k).map plC).length + 1)))) (m := mpN (insK σ.kw k) (updV (fun k => .os (l (.wa k)) (wtOf s σ.bg k).length) k v0)) (by simp [Con.set])
    rw [Lo.set_ne (by simp), l1n _ (by simp)] at Ri
    generalize h5.set (l .mw) (mpN (insK σ.kw k) (updV (updV (fun k => .os (l (.wa k)) (wtOf s σ.bg k).length) k v0) k (.os i (((wtOf s σ.bg k).map plC).length + 1)))) = h6 at *
    clear Re Rf Rg Rh
    generalize hl2 : l1.set (.wa k) i = l2 at *
    have l2n : ∀ a, a ≠ .wa k → l2 a = l1 a := fun a ha => by rw [← hl2, Lo.set_ne ha]
    have l2k : l2 (.wa k) = i := by rw [← hl2, Lo.set_same]
    refine retA_of (Wk.refl (Wk.refl (hq l2 h6 (by rw [l2n _ (by simp), l1n _ (by simp)]) (drop3 (Ri.weak fun a n ha => ?_)))))
    have e0 : σ.beg1 s p = { σ with bg := σ.bg ++ [p], kw := insK σ.kw k } := by simp [St.beg1, hkey]
    rw [e0] at ha
    cases a with
    | hm q =>
      by_cases e : q = p
      · subst e
        simpa [conS, epk, Con.set, mpN] using ha
      · simpa [conS, e, Con.set] using ha
    | mh =>
      have : mpN (σ.bg ++ [p]) (fun p => .mp (l2 (.hm p))) = mpN (insK σ.bg p) (updV (fun p => .mp (l (.hm p))) p (.mp m)) := by
        rw [insK, if_neg hpn]
        congr 1
        funext q
        rw [l2n _ (by simp)]
        by_cases e : q = p
        · subst e; simp [updV, l1p]
        · rw [l1n _ (by simpa using e)]; simp [updV, e]
      simp only [conS, this] at ha
      simpa [Con.set] using ha
    | pa =>
      have : paC s bl { σ with bg := σ.bg ++ [p], kw := insK σ.kw k } l2 = paC s bl σ l := by simp [paC, wV, CSl, l1n, l2n]
      simp only [conS, this] at ha
      simpa [Con.set, conS] using ha
    | mw =>
      have : mpN (insK σ.kw k) (fun k => .os (l2 (.wa k)) (wtOf s (σ.bg ++ [p]) k).length) = mpN (insK σ.kw k) (updV (updV (fun k => .os (l (.wa k)) (wtOf s σ.bg k).length) k v0) k (.os i (((wtOf s σ.bg k).map plC).length + 1))) := by
        congr 1
        funext q
        rw [wt_snoc, hkey]
        by_cases e : q = k
        · subst e; simp [updV, l2k]
        · have e' : ¬ k = q := fun h => e h.symm
          rw [l2n _ (by simpa using e), l1n _ (by simp)]; simp [updV, e, e']
      simp only [conS, this] at ha
      simpa [Con.set] using ha
    | wa q =>
      by_cases e : q = k
      · subst e
        simp only [conS, insK_mem, or_true, if_true, wt_snoc, hkey] at ha
        simpa [Con.set] using ha
      · have e' : ¬ k = q := fun h => e h.symm
        simp only [conS, insK_mem, e, or_false, wt_snoc, hkey, Option.some.injEq, e', if_false] at ha
        simpa [Con.set, conS, e] using ha
    | _ => first | (simp [conS] at ha; done) | simpa [conS, Con.set, l1n, l2n] using ha
  · simp only [k0, decide_false, Bool.false_eq_true, if_false]
    refine retA_of (Wk.refl (Wk.refl (hq l1 h3 (l1n _ (by simp)) (drop3 (Rf (by simp [keyOf, et, k0]))))))
end
end Am
