/- come: a place comes to a parameter. -/
import Derived.Test.YtoifckjdnldlpaaZFc
set_option linter.unusedVariables false
set_option linter.unusedSimpArgs false
namespace Am
open Go Go.Proofs.Try
def Fz0 (x : AV) : Prop := ∃ f caps, x = .fn f caps ∧ ∀ y, y ∈ caps → ∃ cs, y = .ro cs
theorem Fz0.fx {x : AV} (H : Fz0 x) (l : Lo) (X : Con) : Fx l X x := by
  obtain ⟨f, caps, e, h⟩ := H
  exact ⟨f, caps, e, fun y hy => .inl (h y hy)⟩
theorem Fz0.fz {x : AV} (H : Fz0 x) (id : Nat) (cs : List AV) : fzW id cs x = x :=
  Fx.fz (l := fun _ => id + 1) (X := fun _ => none) (H.fx _ _) fun a ha => absurd rfl ha
structure StOk (s : Sch) (σ : St) : Prop where
  bgn : σ.bg.Nodup
  hln : σ.hl.Nodup
  cln : σ.cl.Nodup
  kwn : σ.kw.Nodup
  kin : σ.ki.Nodup
  kw : ∀ k, k ∈ σ.kw ↔ wtOf s σ.bg k ≠ []
  ki : ∀ p, p ∈ σ.ki ↔ pick2 σ.cl p ≠ []
  hlb : ∀ e, e ∈ σ.hl → e.1 ∈ σ.bg
  bgo : ∀ p, p ∈ σ.bg → okP s p
  wn : σ.wn = false → σ.wk = []
  wf : ∀ x, x ∈ σ.wk → Fz0 x
  jf : ∀ x, x ∈ σ.jk → Fz0 x
def clC (F P n : Nat) (x : Pc × Pc) : AV := .fn F [.ro [.op P 0 0], .ro (plC x.2), .ro (plC x.1), .ro [I (n : Nat)]]
theorem clC_fz (F P n : Nat) (x : Pc × Pc) : Fz0 (clC F P n x) := ⟨F, _, rfl, fun y hy => by
  simp only [List.mem_cons, List.not_mem_nil, or_false] at hy
  rcases hy with rfl | rfl | rfl | rfl <;> exact ⟨_, rfl⟩⟩
def nA (s : Sch) (p : Pc) : Nat := (ndS s p).2.length
def Come (s : Sch) (P : Nat) (σ : St) (k p : Pc) (σ' : St) : Prop :=
  ((k, p) ∈ σ.cl ∧ σ' = σ) ∨ ((k, p) ∉ σ.cl ∧ ∃ ps : List (Pc × Pc), (∀ x, x ∈ ps ↔ x.1 ∈ pick σ.hl p ∧ x.2 ∈ wtOf s σ.bg k) ∧ ps.length = (pick σ.hl p).length * (wtOf s σ.bg k).length ∧
    σ' = ({ σ with cl := σ.cl ++ [(k, p)], ki := insK σ.ki p } : St).push (ps.map (clC 243 P (nA s p))))
theorem RC.drop1 {hb h : Heap} {c : Con} {l : Lo} {a : Ad} {n : Node} {i : Nat} (R : RC hb (c.set a n) (l.set a i) h) (ha : c a = none) : RC hb c l h :=
  R.congr fun b m hb => by
    have : b ≠ a := fun e => by subst e; rw [ha] at hb; cases hb
    exact ⟨by rw [Con.set_ne this]; exact hb, by rw [Lo.set_ne this]⟩
theorem CSl_len (s : Sch) (l : Lo) : (CSl s l).length = s.funs.length := by simp [CSl]
theorem CSl_get {s : Sch} (l : Lo) {f : Nat} (hf : f < s.funs.length) : (CSl s l).getD f [] = [.rs 1 ((List.range (ar s f)).map fun i => [.mp (l (.cm (f, i)))])] := by
  simp [CSl, List.getD_eq_getElem?_getD, hf]
theorem NS_len (s : Sch) : (NS s).length = s.funs.length := by simp [NS]
theorem NS_get {s : Sch} {f : Nat} (hf : f < s.funs.length) : (NS s).getD f [] = [.rs 2 (ndCs (ndF 0 (s.funs.getD f default).body))] := by
  simp [NS, List.getD_eq_getElem?_getD, hf]
theorem nd_get {s : Sch} {p : Pc} (hp : okP s p) : (ndCs (ndF 0 (s.funs.getD p.1 default).body)).getD p.2 [] = ndC (ndS s p) := by
  have : p.2 < (ndF 0 (s.funs.getD p.1 default).body).length := by rw [ndF_len]; exact hp.2
  rw [ndCs_get this, ndS]
  generalize ndF 0 (s.funs.getD p.1 default).body = L at *
  simp [List.getD_eq_getElem?_getD, this]
theorem mp_true {ks : List Pc} {p : Pc} (hp : p ∉ ks) : mpN (insK ks p) (updV (fun _ => B true) p (B true)) = mpN (ks ++ [p]) fun _ => B true := by
  have : updV (fun _ => B true) p (B true) = fun _ => B true := by funext q; simp [updV]
  rw [this, insK, if_neg hp]
section
variable {hb h : Heap} {s : Sch} {bl : List Bool} {σ : St} {l : Lo}
theorem rd_cm {i1 : Nat} {L : List AV} {k : Pc} (h1 : h i1 = some (.arr 1 [[.op (l .pa) 0 0]])) (ha : h (l .pa) = some (.arr 10 [L])) (h3 : g L 3 = .rs 1 (CSl s l)) (hk : okK s k) {K : AV → Prop} (hq : K (.mp (l (.cm k)))) :
    loadV (.op i1 0 0) h fun a => nilA a <| fldA 3 a fun p => loadV p h fun x => idxA 1 x (I (k.1 : Nat)) h fun q => loadV q h fun y => idxA 1 y (I (k.2 : Nat)) h fun r => loadV r h K := by
  refine rdA h1 ha (by omega) h3 ?_
  refine ix_rs (by rw [CSl_len]; exact hk.1) (CSl_get l hk.1) ?_
  rw [w_loadV_ro]
  have hk2 : k.2 < ar s k.1 := hk.2
  refine ix_rs (cs := [.mp (l (.cm k))]) (by simpa using hk2) (by simp [List.getD_eq_getElem?_getD, hk2]) ?_
  rw [w_loadV_ro]
  exact hq
theorem rd_nd {i1 : Nat} {P : Nat} {L : List AV} {p : Pc} (h1 : h i1 = some (.arr 1 [[.op P 0 0]])) (ha : h P = some (.arr 10 [L])) (h3 : g L 2 = .rs 1 (NS s)) (hp : okP s p) {K : AV → AV → AV → AV → AV → AV → AV → AV → Prop}
    (hq : K (.op P 0 0) (.op P 0 2) (.rs 1 (NS s)) (.ro [.rs 2 (ndCs (ndF 0 (s.funs.getD p.1 default).body))]) (.rs 2 (ndCs (ndF 0 (s.funs.getD p.1 default).body))) (.ro (ndC (ndS s p))) (.ro [.rs 1 (nCs (ndS s p).2)]) (.rs 1 (nCs (ndS s p).2))) :
    loadV (.op i1 0 0) h fun a => nilA a <| fldA 2 a fun b => loadV b h fun x => idxA 1 x (I (p.1 : Nat)) h fun q => loadV q h fun y => idxA 2 y (I (p.2 : Nat)) h fun r => fldA 1 r fun t => loadV t h fun z => K a b x q y r t z := by
  refine rdA h1 ha (by omega) h3 ?_
  refine ix_rs (by rw [NS_len]; exact hp.1) (NS_get hp.1) ?_
  rw [w_loadV_ro]
  refine ix_rs (by rw [ndCs_len, ndF_len]; exact hp.2) (nd_get hp) ?_
  simp only [ndC, w_fld_ro, List.drop_succ_cons, List.drop_zero, w_loadV_ro]
  exact hq
theorem len_wt {k : Pc} (V : StOk s σ) {K : AV → Prop} {i : Nat} (hq : K (I ((wtOf s σ.bg k).length : Nat))) : lenA (if k ∈ σ.kw then .os i (wtOf s σ.bg k).length else .e0) K := by
  by_cases e : k ∈ σ.kw
  · rw [if_pos e]; exact hq
  · rw [if_neg e]
    have : wtOf s σ.bg k = [] := by
      have := mt (V.kw k).2 e
      simpa using this
    rw [this] at hq; exact hq
theorem len_ia {p : Pc} (V : StOk s σ) {K : AV → Prop} {i : Nat} (hq : K (I ((pick2 σ.cl p).length : Nat))) : lenA (if p ∈ σ.ki then .os i (pick2 σ.cl p).length else .e0) K := by
  by_cases e : p ∈ σ.ki
  · rw [if_pos e]; exact hq
  · rw [if_neg e]
    have : pick2 σ.cl p = [] := by
      have := mt (V.ki p).2 e
      simpa using this
    rw [this] at hq; exact hq
end
theorem tp0 {x : AV} {xs : List AV} {K : AV → Prop} (hk : K x) : tupA (.tup (x :: xs)) 0 K := by
  rw [w_tup]; exact ⟨by simp, by simpa using hk⟩
theorem tp1 {x y : AV} {xs : List AV} {K : AV → Prop} (hk : K y) : tupA (.tup (x :: y :: xs)) 1 K := by
  rw [w_tup]; exact ⟨by simp, by simpa using hk⟩
theorem st_at {h : Heap} {P z n : Nat} {cs : List AV} {x : AV} {K : Heap → Prop} (hh : h P = some (.arr z [cs])) (hn : n < z) (hk : K (h.set P (.arr z [cs.set n x]))) : storeG (.op P 0 n) [x] h K := by
  rw [w_store hh]
  exact ⟨by simp, by simp only [List.length_cons, List.length_nil]; omega, hk⟩
def Con.nil : Con := fun _ => none
section
variable {hb h : Heap} {s : Sch} {bl : List Bool} {σ : St} {l : Lo}
theorem come_c (V : StOk s σ) (R : RC hb (conS s bl σ l) l h) {k p : Pc} (hk : okK s k) (hp : okP s p) (hpb : p ∈ σ.bg) (hs1 : σ.cl.length ≤ 1000000) (hs2 : σ.wk.length + (pick σ.hl p).length * (wtOf s σ.bg k).length ≤ 10000000000000) {Q : AV → Heap → Prop}
    (hq : ∀ σ' l' h', Come s (l .pa) σ k p σ' → l' .pa = l .pa → RC hb (conS s bl σ' l') l' h' → Q (.tup []) h') : ACalls prog n_flow_analysis_come [.op (l .pa) 0 0, I (k.1 : Nat), I (k.2 : Nat), kC p] h Q := by
  refine ACalls.wk ?_
  refine flow_analysis_come_call ?_
  unfold flow_analysis_come
  rw [w_one_op]
  intro i1 hi1
  simp only [w_agg, List.length_cons, List.length_nil, true_and, g_0, g_1]
  have R1 := R.mk' (.tmp 1) (.arr 1 [[.op (l .pa) 0 0]]) hi1
  generalize h.set i1 (.arr 1 [[.op (l .pa) 0 0]]) = h2 at *
  generalize hl1 : l.set (.tmp 1) i1 = l1 at *
  have epa : l1 .pa = l .pa := by rw [← hl1, Lo.set_ne (by simp)]
  have x1 : h2 i1 = some (.arr 1 [[.op (l .pa) 0 0]]) := by
    have := R1.own (.tmp 1) _ (Con.set_same _ _ _)
    rwa [← hl1, Lo.set_same] at this
  have xa : h2 (l .pa) = some (.arr 10 [paC s bl σ l]) := by
    have := R1.own .pa (.arr 10 [paC s bl σ l]) rfl
    rwa [epa] at this
  have ek : okK s k ↔ True := by simp [hk]
  have xc : h2 (l (.cm k)) = some (mpN (pick σ.cl k) fun _ => B true) := by
    have := R1.own (.cm k) (mpN (pick σ.cl k) fun _ => B true) (by simp [Con.set, conS, hk])
    rwa [← hl1, Lo.set_ne (by simp)] at this
  refine rd_cm x1 xa rfl hk ?_
  refine look_c xc ?_
  by_cases hin : (k, p) ∈ σ.cl
  · simp only [mem_pick, hin, if_true, w_brA]
    exact retA_of (Wk.refl (hq σ l h2 (.inl ⟨hin, rfl⟩) rfl (RC.drop1 (by rw [hl1]; exact R1) rfl)))
  simp only [mem_pick, hin, if_false, w_brA, Bool.false_eq_true]
  refine rd_cm x1 xa rfl hk ?_
  refine upd_c (pick_nodup V.cln k) xc ?_
  rw [mp_true (by simpa using hin)]
  have R2 := R1.upd (a := .cm k) (mpN (pick σ.cl k ++ [p]) fun _ => B true) (m := mpN (pick σ.cl k) fun _ => B true) (by simp [Con.set, conS, hk])
  rw [show l1 (.cm k) = l (.cm k) by rw [← hl1, Lo.set_ne (by simp)]] at R2
  generalize h2.set (l (.cm k)) (mpN (pick σ.cl k ++ [p]) fun _ => B true) = h3 at *
  have x1 : h3 i1 = some (.arr 1 [[.op (l .pa) 0 0]]) := by
    have := R2.own (.tmp 1) (.arr 1 [[.op (l .pa) 0 0]]) (by simp [Con.set])
    rwa [← hl1, Lo.set_same] at this
  have xa : h3 (l .pa) = some (.arr 10 [paC s bl σ l]) := by
    have := R2.own .pa (.arr 10 [paC s bl σ l]) (by simp [Con.set, conS])
    rwa [epa] at this
  have xi : h3 (l .mi) = some (mpN σ.ki fun p => .os (l (.ia p)) (pick2 σ.cl p).length) := by
    have := R2.own .mi (mpN σ.ki fun p => .os (l (.ia p)) (pick2 σ.cl p).length) (by simp [Con.set, conS])
    rwa [show l1 .mi = l .mi by rw [← hl1, Lo.set_ne (by simp)]] at this
  refine rdA x1 xa (by omega) rfl ?_
  rw [w_one_v, w_one_v]
  refine ent_c V.kin xi fun ix hix hixk => ?_
  refine tp0 (tp1 ?_)
  generalize ev0 : (if p ∈ σ.ki then AV.os (l (.ia p)) (pick2 σ.cl p).length else .e0) = v0 at *
  have R3 := R2.upd (a := .mi) (mpN (insK σ.ki p) (updV (fun p => .os (l (.ia p)) (pick2 σ.cl p).length) p v0)) (m := mpN σ.ki fun p => .os (l (.ia p)) (pick2 σ.cl p).length) (by simp [Con.set, conS])
  rw [show l1 .mi = l .mi by rw [← hl1, Lo.set_ne (by simp)]] at R3
  generalize h3.set (l .mi) (mpN (insK σ.ki p) (updV (fun p => .os (l (.ia p)) (pick2 σ.cl p).length) p v0)) = h4 at *
  have hpl : (pick2 σ.cl p).length ≤ σ.cl.length := by
    simp only [pick2, List.length_map]; exact List.length_filter_le _ _
  refine R3.app1 (.ia p) (els := (pick2 σ.cl p).map plC) ?_ (by simp; omega) fun i4 h5 R4 => ?_
  · rw [← ev0]
    by_cases e : p ∈ σ.ki
    · exact .inr ⟨_, (pick2 σ.cl p).map plC, by rw [if_pos e, ← hl1, Lo.set_ne (by simp)], by simp [Con.set, conS, e], by simp, by rw [List.take_of_length_le (by simp)]⟩
    · have : pick2 σ.cl p = [] := by
        have := mt (V.ki p).2 e
        simpa using this
      exact .inl ⟨by rw [if_neg e], by rw [this]; rfl⟩
  rw [w_one_os]
  have xi : h5 (l .mi) = some (mpN (insK σ.ki p) (updV (fun p => .os (l (.ia p)) (pick2 σ.cl p).length) p v0)) := by
    have := R4.own .mi (mpN (insK σ.ki p) (updV (fun p => .os (l (.ia p)) (pick2 σ.cl p).length) p v0)) (by simp [Con.set])
    rwa [Lo.set_ne (by simp), show l1 .mi = l .mi by rw [← hl1, Lo.set_ne (by simp)]] at this
  refine entS_c (insK_nodup V.kin) xi hix hixk ?_
  simp only [List.length_map]
  have R5 := R4.upd (a := .mi) (mpN (insK σ.ki p) (updV (updV (fun p => .os (l (.ia p)) (pick2 σ.cl p).length) p v0) p (.os i4 ((pick2 σ.cl p).length + 1)))) (m := mpN (insK σ.ki p) (updV (fun p => .os (l (.ia p)) (pick2 σ.cl p).length) p v0)) (by simp [Con.set])
  rw [Lo.set_ne (by simp), show l1 .mi = l .mi by rw [← hl1, Lo.set_ne (by simp)]] at R5
  generalize h5.set (l .mi) (mpN (insK σ.ki p) (updV (updV (fun p => .os (l (.ia p)) (pick2 σ.cl p).length) p v0) p (.os i4 ((pick2 σ.cl p).length + 1)))) = h6 at *
  have x1 : h6 i1 = some (.arr 1 [[.op (l .pa) 0 0]]) := by
    have := R5.own (.tmp 1) (.arr 1 [[.op (l .pa) 0 0]]) (by simp [Con.set])
    rwa [Lo.set_ne (by simp), ← hl1, Lo.set_same] at this
  have xa : h6 (l .pa) = some (.arr 10 [paC s bl σ l]) := by
    have := R5.own .pa (.arr 10 [paC s bl σ l]) (by simp [Con.set, conS])
    rwa [Lo.set_ne (by simp), epa] at this
  refine rdA (x := I (σ.cl.length : Nat)) x1 xa (by omega) rfl ?_
  rw [w_add, show IntKind.i64.wrap ((σ.cl.length : Int) + 1) = ((σ.cl.length + 1 : Nat) : Int) from wrap_k (by omega)]
  rw [w_nil_op, w_fld_op, w_one_v, Nat.zero_add]
  refine st_at xa (by omega) ?_
  have R6 := R5.upd (a := .pa) (.arr 10 [(paC s bl σ l).set 9 (I (σ.cl.length + 1 : Nat))]) (m := .arr 10 [paC s bl σ l]) (by simp [Con.set, conS])
  rw [Lo.set_ne (by simp), epa] at R6
  generalize h6.set (l .pa) (.arr 10 [(paC s bl σ l).set 9 (I (σ.cl.length + 1 : Nat))]) = h7 at *
  have x1 : h7 i1 = some (.arr 1 [[.op (l .pa) 0 0]]) := by
    have := R6.own (.tmp 1) (.arr 1 [[.op (l .pa) 0 0]]) (by simp [Con.set])
    rwa [Lo.set_ne (by simp), ← hl1, Lo.set_same] at this
  have xa : h7 (l .pa) = some (.arr 10 [(paC s bl σ l).set 9 (I (σ.cl.length + 1 : Nat))]) := by
    have := R6.own .pa (.arr 10 [(paC s bl σ l).set 9 (I (σ.cl.length + 1 : Nat))]) (by simp [Con.set])
    rwa [Lo.set_ne (by simp), epa] at this
  refine rd_nd x1 xa rfl hp ?_
  rw [w_len_rs, nCs_len]
  intro i2 hi2
  have R7a := R6.mk' (.tmp 2) (.arr 1 [[I 0]]) hi2
  have x1 : (h7.set i2 (.arr 1 [[I 0]])) i1 = some (.arr 1 [[.op (l .pa) 0 0]]) := by
    have := R7a.own (.tmp 1) (.arr 1 [[.op (l .pa) 0 0]]) (by simp [Con.set])
    rwa [Lo.set_ne (by simp), Lo.set_ne (by simp), ← hl1, Lo.set_same] at this
  have xa : (h7.set i2 (.arr 1 [[I 0]])) (l .pa) = some (.arr 10 [(paC s bl σ l).set 9 (I (σ.cl.length + 1 : Nat))]) := by
    have := R7a.own .pa (.arr 10 [(paC s bl σ l).set 9 (I (σ.cl.length + 1 : Nat))]) (by simp [Con.set])
    rwa [Lo.set_ne (by simp), Lo.set_ne (by simp), epa] at this
  refine ⟨ld x1 (by omega) rfl rfl, ld xa (by omega) rfl rfl, ix_rs (by rw [NS_len]; exact hp.1) (NS_get hp.1) rfl, by rw [w_loadV_ro], ix_rs (by rw [ndCs_len, ndF_len]; exact hp.2) (nd_get hp) rfl, by rw [w_loadV_ro], ?_⟩
  rw [w_one_v]
  refine st_at (Heap.set_same _ _ _) (by omega) ?_
  rw [Heap.set_set]
  have R7 := R6.mk' (.tmp 2) (.arr 1 [[I (nA s p : Nat)]]) hi2
  clear R7a x1 xa
  have est : ([I 0] : List AV).set 0 (I (((ndS s p).2.length : Nat) : Int)) = [I (nA s p : Nat)] := rfl
  rw [est]
  generalize h7.set i2 (.arr 1 [[I (nA s p : Nat)]]) = h8 at *
  generalize hl7 : (l1.set (.ia p) i4).set (.tmp 2) i2 = l7 at *
  have l7n : ∀ a, (∀ n, a ≠ .tmp n) → (∀ q, a ≠ .ia q) → l7 a = l a := fun a ha hb => by
    rw [← hl7, Lo.set_ne (ha 2), Lo.set_ne (hb p), ← hl1, Lo.set_ne (ha 1)]
  have l71 : l7 (.tmp 1) = i1 := by rw [← hl7, Lo.set_ne (by simp), Lo.set_ne (by simp), ← hl1, Lo.set_same]
  have l72 : l7 (.tmp 2) = i2 := by rw [← hl7, Lo.set_same]
  have x1 : h8 i1 = some (.arr 1 [[.op (l .pa) 0 0]]) := by
    have := R7.own (.tmp 1) (.arr 1 [[.op (l .pa) 0 0]]) (by simp [Con.set])
    rwa [l71] at this
  have xa : h8 (l .pa) = some (.arr 10 [(paC s bl σ l).set 9 (I (σ.cl.length + 1 : Nat))]) := by
    have := R7.own .pa (.arr 10 [(paC s bl σ l).set 9 (I (σ.cl.length + 1 : Nat))]) (by simp [Con.set])
    rwa [l7n _ (by simp) (by simp)] at this
  have xh : h8 (l .mh) = some (mpN σ.bg fun p => .mp (l (.hm p))) := by
    have := R7.own .mh (mpN σ.bg fun p => .mp (l (.hm p))) (by simp [Con.set, conS])
    rwa [l7n _ (by simp) (by simp)] at this
  have xm : h8 (l (.hm p)) = some (mpN (pick σ.hl p) fun _ => B true) := by
    have := R7.own (.hm p) (mpN (pick σ.hl p) fun _ => B true) (by simp [Con.set, conS, hpb])
    rwa [l7n _ (by simp) (by simp)] at this
  refine rdA x1 xa (by omega) rfl ?_
  refine look_c (ks := σ.bg) (v := fun p => .mp (l (.hm p))) xh ?_
  rw [if_pos hpb]
  refine range_c xm fun it hit => ?_
  have R8 := R7.mk' .it (.iter (l (.hm p)) (pick σ.hl p).length (List.range (pick σ.hl p).length) none) hit
  clear x1 xa xh xm
  generalize h8.set it (.iter (l (.hm p)) (pick σ.hl p).length (List.range (pick σ.hl p).length) none) = h9 at *
  generalize hl8 : l7.set .it it = l8 at *
  have l8n : ∀ a, (∀ n, a ≠ .tmp n) → (∀ q, a ≠ .ia q) → a ≠ .it → l8 a = l a := fun a ha hb hc => by
    rw [← hl8, Lo.set_ne hc]; exact l7n a ha hb
  have l81 : l8 (.tmp 1) = i1 := by rw [← hl8, Lo.set_ne (by simp), l71]
  have l82 : l8 (.tmp 2) = i2 := by rw [← hl8, Lo.set_ne (by simp), l72]
  have l8i : l8 .it = it := by rw [← hl8, Lo.set_same]
  have l8a : ∀ q, l8 (.ia q) = if q = p then i4 else l (.ia q) := fun q => by
    rw [← hl8, Lo.set_ne (by simp), ← hl7, Lo.set_ne (by simp)]
    by_cases e : q = p
    · subst e; rw [if_pos rfl, Lo.set_same]
    · rw [if_neg e, Lo.set_ne (by simpa using e), ← hl1, Lo.set_ne (by simp)]
  generalize ehs : pick σ.hl p = hs at *
  let σ2 : St := { σ with cl := σ.cl ++ [(k, p)], ki := insK σ.ki p }
  let X : List Nat → Option Nat → Con := fun left cur => ((Con.nil.set (.tmp 1) (.arr 1 [[.op (l .pa) 0 0]])).set (.tmp 2) (.arr 1 [[I (nA s p : Nat)]])).set .it (.iter (l (.hm p)) hs.length left cur)
  have R9 : RC hb (ovl (conS s bl σ2 l8) (X (List.range hs.length) none)) l8 h9 := R8.weak fun a n ha => by
    clear hq R R1 R2 R3 R4 R5 R6 R7 R8
    cases a with
    | pa =>
      have e : conS s bl σ2 l8 .pa = some (.arr 10 [(paC s bl σ l).set 9 (I (σ.cl.length + 1 : Nat))]) := by
        simp [conS, paC, σ2, wV, CSl, l8n]
      simp only [ovl, e] at ha
      simpa [Con.set] using ha
    | mi =>
      have e : conS s bl σ2 l8 .mi = some (mpN (insK σ.ki p) (updV (updV (fun p => .os (l (.ia p)) (pick2 σ.cl p).length) p v0) p (.os i4 ((pick2 σ.cl p).length + 1)))) := by
        simp only [conS, σ2]
        congr 2
        funext q
        rw [l8a, pick2_snoc]
        by_cases e : q = p
        · subst e; simp [updV]
        · have e' : ¬ p = q := fun h => e h.symm
          simp [updV, e, e']
      simp only [ovl, e] at ha
      simpa [Con.set] using ha
    | ia q =>
      by_cases e : q = p
      · subst e
        simp only [ovl, conS, σ2, insK_mem, or_true, if_true, pick2_snoc] at ha
        simpa [Con.set] using ha
      · have e' : ¬ p = q := fun h => e h.symm
        by_cases e2 : q ∈ σ.ki
        · simp only [ovl, conS, σ2, insK_mem, e2, true_or, if_true, pick2_snoc, e', if_false] at ha
          simpa [Con.set, conS, e, e2] using ha
        · simp [ovl, conS, σ2, e2, e, X, Con.set, Con.nil] at ha
    | cm k' =>
      by_cases e : k' = k
      · subst e
        simp only [ovl, conS, σ2, hk, if_true, pick_snoc] at ha
        simpa [Con.set] using ha
      · have e' : ¬ k = k' := fun h => e h.symm
        simp only [ovl, conS, σ2, pick_snoc, e', if_false] at ha
        have e3 : Con.set Con.nil (.tmp 1) (.arr 1 [[.op (l .pa) 0 0]]) (.cm k') = none := by simp [Con.set, Con.nil]
        by_cases e2 : okK s k'
        · simp only [e2, if_true] at ha
          simpa [Con.set, conS, e, e2] using ha
        · simp [e2, X, Con.set, Con.nil] at ha
    | tmp n => simpa [ovl, conS, X, Con.set, Con.nil] using ha
    | it => simpa [ovl, conS, X, Con.set, Con.nil] using ha
    | mh => simpa [ovl, conS, σ2, Con.set, l8n] using ha
    | mw => simpa [ovl, conS, σ2, Con.set, l8n] using ha
    | hm q =>
      by_cases e2 : q ∈ σ.bg
      · simpa [ovl, conS, σ2, Con.set, e2] using ha
      · simp [ovl, conS, σ2, e2, X, Con.set, Con.nil] at ha
    | wa q =>
      by_cases e2 : q ∈ σ.kw
      · simpa [ovl, conS, σ2, Con.set, e2] using ha
      · simp [ovl, conS, σ2, e2, X, Con.set, Con.nil] at ha
    | wk =>
      by_cases e2 : σ.wn = true
      · simpa [ovl, conS, σ2, Con.set, e2] using ha
      · simp [ovl, conS, σ2, e2, X, Con.set, Con.nil] at ha
    | nb => simp [ovl, conS, X, Con.set, Con.nil] at ha
    | cb => simp [ovl, conS, X, Con.set, Con.nil] at ha
    | cs f => simp [ovl, conS, X, Con.set, Con.nil] at ha
  clear R R1 R2 R3 R4 R5 R6 R7 R8
  let clo : Pc × Pc → AV := fun x => .fn 243 [.op i1 0 0, .ro (plC x.2), .ro (plC x.1), .op i2 0 0]
  generalize ewt : wtOf s σ.bg k = wt at *
  have hjf : ∀ id cs x, x ∈ σ2.jk → fzW id cs x = x := fun id cs x hx => (V.jf x hx).fz id cs
  have hwf : ∀ id cs x, x ∈ σ2.wk → fzW id cs x = x := fun id cs x hx => (V.wf x hx).fz id cs
  refine loop_downW (fun m σ' h' => σ' = [] ∧ ∃ left cur ps l', m = left.length ∧ left.Nodup ∧ (∀ i, i ∈ left → i < hs.length) ∧ (∀ x, x ∈ ps ↔ (∃ i, ∃ hi : i < hs.length, i ∉ left ∧ hs[i] = x.1) ∧ x.2 ∈ wt) ∧ ps.length + left.length * wt.length = hs.length * wt.length ∧
      (∀ a, a ≠ .wk → a ≠ .tmp 3 → a ≠ .tmp 4 → l' a = l8 a) ∧ RC hb (ovl (conS s bl (σ2.push (ps.map clo)) l') (X left cur)) l' h') hs.length ⟨rfl, List.range hs.length, none, [], l8, by simp, List.nodup_range, by simp, fun x => ⟨fun h => by (cases h), fun ⟨⟨i, hi, hn, _⟩, _⟩ => absurd (List.mem_range.2 hi) hn⟩, by simp, fun _ _ _ _ => rfl, by simpa using R9⟩ ?_
  clear R9
  rintro m σ' h' K ⟨rfl, left, cur, ps, l', rfl, hnd, hlt, hps, hcnt, hl', R⟩ hK
  have lX : ∀ a, (∀ n, a ≠ .tmp n) → (∀ q, a ≠ .ia q) → a ≠ .it → a ≠ .wk → l' a = l a := fun a ha hb hc hd => by
    rw [hl' a hd (ha 3) (ha 4), l8n a ha hb hc]
  have l'1 : l' (.tmp 1) = i1 := by rw [hl' _ (by simp) (by simp) (by simp), l81]
  have l'2 : l' (.tmp 2) = i2 := by rw [hl' _ (by simp) (by simp) (by simp), l82]
  have l'i : l' .it = it := by rw [hl' _ (by simp) (by simp) (by simp), l8i]
  have hhm : σ2.bg = σ.bg := rfl
  have xit : h' it = some (.iter (l (.hm p)) hs.length left cur) := by
    have := R.own .it (.iter (l (.hm p)) hs.length left cur) (by simp [ovl, conS, X, Con.set])
    rwa [l'i] at this
  have xm : h' (l (.hm p)) = some (mpN hs fun _ => B true) := by
    have := R.own (.hm p) (mpN hs fun _ => B true) (by simp [ovl, conS, St.push, σ2, hpb, ehs])
    rwa [lX _ (by simp) (by simp) (by simp) (by simp)] at this
  have n12 : i1 ≠ i2 := fun e => by
    have := R.inj (.tmp 1) (.tmp 2) (.arr 1 [[.op (l .pa) 0 0]]) (.arr 1 [[I (nA s p : Nat)]]) (by simp [ovl, conS, X, Con.set]) (by simp [ovl, conS, X, Con.set]) (by rw [l'1, l'2, e])
    simp at this
  refine next_c xit xm hlt (fun hle => ?_) fun i hi him => ?_
  · subst hle
    refine tp0 ?_
    simp only [w_brA, Bool.false_eq_true, if_false]
    obtain ⟨h2, r1, R2⟩ := R.fzS (t := 2) (sz := 1) (cs := [I (nA s p : Nat)]) (by simp [X, Con.set]) rfl (by simp [X, Con.set, Con.nil])
    obtain ⟨h3, r2, R3⟩ := R2.fzS (t := 1) (sz := 1) (cs := [.op (l .pa) 0 0]) (by simp [X, Con.set, Con.del]) rfl (by simp [X, Con.set, Con.nil, Con.del])
    refine retA_wk .refl r1 (Wk.one .refl r2 ?_)
    rw [push_mapW _ _ (hwf _ _) (hjf _ _), push_mapW _ _ (hwf _ _) (hjf _ _), l'1, l'2, List.map_map, List.map_map] at R3
    have e3 : ps.map ((fzW i1 [.op (l .pa) 0 0] ∘ fzW i2 [I (nA s p : Nat)]) ∘ clo) = ps.map (clC 243 (l .pa) (nA s p)) := List.map_congr_left fun x hx => by
      simp [clo, clC, fzW, fzA, n12]
    rw [e3] at R3
    refine hq _ l' h3 (.inr ⟨hin, ps, fun x => ?_, by rw [ehs, ewt]; simpa using hcnt, rfl⟩) (lX _ (by simp) (by simp) (by simp) (by simp)) (R3.weak fun a n ha => ?_)
    · rw [hps, ehs, ewt]
      refine and_congr_left fun _ => ⟨fun ⟨i, hi, _, e⟩ => e ▸ List.getElem_mem hi, fun h => ?_⟩
      obtain ⟨i, hi, e⟩ := List.mem_iff_getElem.1 h
      exact ⟨i, hi, by simp, e⟩
    · show (conS s bl (σ2.push (ps.map (clC 243 (l .pa) (nA s p)))) l' a).or _ = some n
      rw [show conS s bl (σ2.push (ps.map (clC 243 (l .pa) (nA s p)))) l' a = some n from ha]; rfl
  · refine tp0 ?_
    simp only [w_brA, if_true]
    have R1 := R.upd (a := .it) (.iter (l (.hm p)) hs.length (left.erase i) (some i)) (m := .iter (l (.hm p)) hs.length left cur) (by simp [ovl, conS, X, Con.set])
    rw [l'i] at R1
    have xm2 : (h'.set it (.iter (l (.hm p)) hs.length (left.erase i) (some i))) (l (.hm p)) = some (mpN hs fun _ => B true) := by
      have := R1.own (.hm p) (mpN hs fun _ => B true) (by simp [ovl, conS, St.push, σ2, hpb, ehs, Con.set])
      rwa [lX _ (by simp) (by simp) (by simp) (by simp)] at this
    refine entry_c (Heap.set_same _ _ _) xm2 hi ?_
    generalize h'.set it (.iter (l (.hm p)) hs.length (left.erase i) (some i)) = h2 at *
    refine tp0 ?_
    intro i4 hi4
    simp only [w_agg, List.length_cons, List.length_nil, true_and, g_0, g_1]
    rw [w_store (Heap.set_same _ _ _)]
    refine ⟨by simp, by simp, ?_⟩
    rw [Heap.set_set]
    have esp : ([[I 0, I 0]] : List (List AV)).set 0 (splice (([[I 0, I 0]] : List (List AV)).getD 0 []) 0 [I (hs[i].1 : Nat), I (hs[i].2 : Nat)]) = [plC hs[i]] := rfl
    rw [esp]
    have R2 := R1.mk' (.tmp 4) (.arr 2 [plC hs[i]]) hi4
    generalize h2.set i4 (.arr 2 [plC hs[i]]) = h3 at *
    generalize hl4 : l'.set (.tmp 4) i4 = l4 at *
    have l4n : ∀ a, a ≠ .tmp 4 → l4 a = l' a := fun a ha => by rw [← hl4, Lo.set_ne ha]
    have l44 : l4 (.tmp 4) = i4 := by rw [← hl4, Lo.set_same]
    let X4 : Con := (X (left.erase i) (some i)).set (.tmp 4) (.arr 2 [plC hs[i]])
    have R3 : RC hb (ovl (conS s bl (σ2.push (ps.map clo)) l4) X4) l4 h3 := R2.weak fun a n ha => by
      have ec : conS s bl (σ2.push (ps.map clo)) l4 = conS s bl (σ2.push (ps.map clo)) l' := by
        funext b; cases b <;> simp [conS, paC, wV, CSl, l4n]
      rw [ec] at ha
      cases a with
      | tmp m =>
        by_cases e : m = 4
        · subst e; simpa [ovl, conS, X4, X, Con.set] using ha
        · simpa [ovl, conS, X4, X, Con.set, e] using ha
      | it => simpa [ovl, conS, X4, X, Con.set] using ha
      | _ => first | (simp [ovl, conS, X4, X, Con.set, Con.nil] at ha; done) | simpa [ovl, conS, X4, X, Con.set, Con.nil] using ha
    clear R R1 R2
    have x1 : h3 i1 = some (.arr 1 [[.op (l .pa) 0 0]]) := by
      have := R3.own (.tmp 1) (.arr 1 [[.op (l .pa) 0 0]]) (by simp [ovl, conS, X4, X, Con.set])
      rwa [l4n _ (by simp), l'1] at this
    have l4X : ∀ a, (∀ n, a ≠ .tmp n) → (∀ q, a ≠ .ia q) → a ≠ .it → a ≠ .wk → l4 a = l a := fun a ha hb hc hd => by
      rw [l4n a (ha 4), lX a ha hb hc hd]
    have xa : h3 (l .pa) = some (.arr 10 [paC s bl (σ2.push (ps.map clo)) l4]) := by
      have := R3.own .pa (.arr 10 [paC s bl (σ2.push (ps.map clo)) l4]) (by simp [ovl, conS])
      rwa [l4X _ (by simp) (by simp) (by simp) (by simp)] at this
    have xw : h3 (l4 .mw) = some (mpN σ.kw fun k => .os (l4 (.wa k)) (wtOf s σ.bg k).length) := R3.own .mw _ (by simp [ovl, conS, St.push, σ2])
    refine rdA x1 xa (by omega) rfl ?_
    rw [w_one_v, w_one_v]
    refine look_c (k := k) xw ?_
    refine len_wt V ?_
    have hcn2 : left.length = (left.erase i).length + 1 := by
      rw [List.length_erase_of_mem him]
      have := List.length_pos_of_mem him
      omega
    have hcnt2 : ps.length + wt.length + (left.erase i).length * wt.length = hs.length * wt.length := by
      rw [← hcnt, hcn2, Nat.succ_mul]; omega
    have hsz : σ.wk.length + ps.length + wt.length ≤ 10000000000000 := by
      have := Nat.zero_le ((left.erase i).length * wt.length)
      omega
    refine push_loop (σ := σ2.push (ps.map clo)) (l := l4) (X := X4) (k := k) (i1 := i1) (i2 := i2) (i4 := i4) R3 (fun a ha hb => by simp [X4, X, Con.set, Con.nil, ha, hb]) (by simp [X4, X, Con.set, Con.nil]) (by rw [l4n _ (by simp), l'1]) (by rw [l4n _ (by simp), l'2]) l44
      (by rw [l4X .pa (by simp) (by simp) (by simp) (by simp)]; simp [X4, X, Con.set]) (n2 := .arr 1 [[I (nA s p : Nat)]]) (by simp [X4, X, Con.set]) (n4 := .arr 2 [plC hs[i]]) (by simp [X4, Con.set]) (fun x hx => ?_) (fun h => ?_) rfl rfl (fun hkn => ?_) (by simp only [St.push, List.length_append, List.length_map, σ2, ewt]; exact hsz) fun l5 h5 hl5 R5 => ?_
    · rcases List.mem_append.1 hx with hx | hx
      · exact (V.wf x hx).fx _ _
      · obtain ⟨q, _, rfl⟩ := List.mem_map.1 hx
        refine ⟨243, _, rfl, fun y hy => ?_⟩
        simp only [List.mem_cons, List.not_mem_nil, or_false] at hy
        rcases hy with rfl | rfl | rfl | rfl
        · exact .inr ⟨.tmp 1, by simp [X4, X, Con.set], by rw [l4n _ (by simp), l'1]⟩
        · exact .inl ⟨_, rfl⟩
        · exact .inl ⟨_, rfl⟩
        · exact .inr ⟨.tmp 2, by simp [X4, X, Con.set], by rw [l4n _ (by simp), l'2]⟩
    · simp only [St.push, Bool.or_eq_false_iff, Bool.not_eq_false', σ2] at h
      have h6 : ps.map clo = [] := by simpa using h.2
      simp only [St.push, h6, V.wn h.1, List.append_nil, σ2]
    · have := mt (V.kw k).2 hkn
      simpa [St.push, σ2] using this
    · have ewt2 : wtOf s (σ2.push (ps.map clo)).bg k = wt := ewt
      rw [ewt2, push_push] at R5
      have l54 : l5 (.tmp 4) = i4 := by rw [hl5 _ (by simp) (by simp), l44]
      obtain ⟨h6, r1, R6⟩ := R5.fzS (t := 4) (sz := 2) (cs := plC hs[i]) (by simp [X4, Con.set]) rfl (by simp [X4, X, Con.set, Con.nil])
      rw [push_mapW _ _ (hwf _ _) (hjf _ _), l54] at R6
      have n14 : i1 ≠ i4 := fun e => by
        have := R3.inj (.tmp 1) (.tmp 4) (.arr 1 [[.op (l .pa) 0 0]]) (.arr 2 [plC hs[i]]) (by simp [ovl, conS, X4, X, Con.set]) (by simp [ovl, conS, X4, X, Con.set]) (by rw [l44, l4n _ (by simp), l'1, e])
        simp at this
      have n24 : i2 ≠ i4 := fun e => by
        have := R3.inj (.tmp 2) (.tmp 4) (.arr 1 [[I (nA s p : Nat)]]) (.arr 2 [plC hs[i]]) (by simp [ovl, conS, X4, X, Con.set]) (by simp [ovl, conS, X4, X, Con.set]) (by rw [l44, l4n _ (by simp), l'2, e])
        simp at this
      have e5 : (ps.map clo ++ wt.map fun q => AV.fn 243 [.op i1 0 0, .ro (plC q), .op i4 0 0, .op i2 0 0]).map (fzW i4 (plC hs[i])) = (ps ++ wt.map fun q => (hs[i], q)).map clo := by
        simp only [List.map_append, List.map_map]
        congr 1
        · refine List.map_congr_left fun x hx => ?_
          simp [clo, fzW, fzA, n14, n24]
        · refine List.map_congr_left fun x hx => ?_
          simp [clo, fzW, fzA, n14, n24]
      rw [e5] at R6
      refine hK (left.erase i).length [] h5 (by omega) (Wk.none r1 ⟨rfl, left.erase i, some i, ps ++ wt.map (fun q => (hs[i], q)), l5, rfl, hnd.erase i, fun j hj => hlt j (List.mem_of_mem_erase hj), fun x => ?_, by simpa using hcnt2, fun a ha hb hc => by rw [hl5 a ha hb, l4n a hc]; exact hl' a ha hb hc, R6.weak fun a n ha => ?_⟩)
      · rw [List.mem_append, hps, List.mem_map]
        constructor
        · rintro (⟨⟨j, hj, hn, e⟩, h2⟩ | ⟨q, hq', rfl⟩)
          · exact ⟨⟨j, hj, fun h => hn (List.mem_of_mem_erase h), e⟩, h2⟩
          · exact ⟨⟨i, hi, fun h => ((hnd.mem_erase_iff).1 h).1 rfl, rfl⟩, hq'⟩
        · rintro ⟨⟨j, hj, hn, e⟩, h2⟩
          by_cases e2 : j = i
          · subst e2; exact .inr ⟨x.2, h2, by rw [e]⟩
          · exact .inl ⟨⟨j, hj, fun h => hn ((List.mem_erase_of_ne e2).2 h), e⟩, h2⟩
      · cases a with
        | tmp m =>
          by_cases e : m = 4
          · subst e; simp [ovl, conS, X, Con.set, Con.nil] at ha
          · simpa [ovl, conS, X4, X, Con.set, Con.del, e] using ha
        | it => simpa [ovl, conS, X4, X, Con.set, Con.del] using ha
        | _ => first | (simp [ovl, conS, X4, X, Con.set, Con.nil, Con.del] at ha; done) | simpa [ovl, conS, X4, X, Con.set, Con.nil, Con.del] using ha
end
end Am
