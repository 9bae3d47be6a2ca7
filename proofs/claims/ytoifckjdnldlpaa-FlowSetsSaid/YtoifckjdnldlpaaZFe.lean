/- add: a place has a head. -/
import Derived.Test.YtoifckjdnldlpaaZFd
set_option linter.unusedVariables false
set_option linter.unusedSimpArgs false
namespace Am
open Go Go.Proofs.Try
theorem StOk.push {s : Sch} {σ : St} (V : StOk s σ) {ws : List AV} (hw : ∀ x, x ∈ ws → Fz0 x) : StOk s (σ.push ws) where
  bgn := V.bgn
  hln := V.hln
  cln := V.cln
  kwn := V.kwn
  kin := V.kin
  kw := V.kw
  ki := V.ki
  hlb := V.hlb
  bgo := V.bgo
  wn h := by
    simp only [St.push, Bool.or_eq_false_iff, Bool.not_eq_false'] at h ⊢
    have h6 : ws = [] := by simpa using h.2
    rw [V.wn h.1, h6]; rfl
  wf x hx := by
    rcases List.mem_append.1 hx with hx | hx
    · exact V.wf x hx
    · exact hw x hx
  jf x hx := by
    simp only [St.push] at hx
    cases h : ws.isEmpty
    · simp [h] at hx
    · simp only [h, if_true] at hx; exact V.jf x hx
theorem StOk.came {s : Sch} {σ : St} (V : StOk s σ) {P : Nat} {k p : Pc} {σ' : St} (h : Come s P σ k p σ') : StOk s σ' := by
  rcases h with ⟨_, rfl⟩ | ⟨hn, ps, _, _, rfl⟩
  · exact V
  · refine StOk.push (σ := { σ with cl := σ.cl ++ [(k, p)], ki := insK σ.ki p }) ⟨V.bgn, V.hln, ?_, V.kwn, insK_nodup V.kin, V.kw, fun q => ?_, V.hlb, V.bgo, V.wn, V.wf, V.jf⟩ fun x hx => ?_
    · show (σ.cl ++ [(k, p)]).Nodup
      rw [List.nodup_append]
      exact ⟨V.cln, by simp, fun a ha b hb => by
        have : b = (k, p) := by simpa using hb
        subst this; rintro rfl; exact hn ha⟩
    · show q ∈ insK σ.ki p ↔ pick2 (σ.cl ++ [(k, p)]) q ≠ []
      rw [insK_mem, pick2_snoc]
      by_cases e : p = q
      · subst e; simp
      · have e' : ¬ q = p := fun h => e h.symm
        simp [e, e', V.ki q]
    · obtain ⟨y, _, rfl⟩ := List.mem_map.1 hx
      exact clC_fz _ _ _ _
inductive ComeL (s : Sch) (P : Nat) (σ : St) : List (Pc × Pc) → St → Prop
  | nil : ComeL s P σ [] σ
  | snoc {L : List (Pc × Pc)} {σ1 σ2 : St} {k p : Pc} (h1 : ComeL s P σ L σ1) (h2 : Come s P σ1 k p σ2) : ComeL s P σ (L ++ [(k, p)]) σ2
theorem Come.bg {s : Sch} {P : Nat} {σ σ' : St} {k p : Pc} (h : Come s P σ k p σ') : σ'.bg = σ.bg ∧ σ'.hl = σ.hl ∧ σ'.kw = σ.kw := by
  rcases h with ⟨_, rfl⟩ | ⟨_, ps, _, _, rfl⟩
  · exact ⟨rfl, rfl, rfl⟩
  · exact ⟨rfl, rfl, rfl⟩
theorem ComeL.bg {s : Sch} {P : Nat} {σ σ' : St} {L : List (Pc × Pc)} (h : ComeL s P σ L σ') : σ'.bg = σ.bg ∧ σ'.hl = σ.hl ∧ σ'.kw = σ.kw := by
  induction h with
  | nil => exact ⟨rfl, rfl, rfl⟩
  | snoc _ h2 ih =>
    obtain ⟨a, b, c⟩ := h2.bg
    exact ⟨a.trans ih.1, b.trans ih.2.1, c.trans ih.2.2⟩
theorem ComeL.ok {s : Sch} {P : Nat} {σ σ' : St} {L : List (Pc × Pc)} (V : StOk s σ) (h : ComeL s P σ L σ') : StOk s σ' := by
  induction h with
  | nil => exact V
  | snoc _ h2 ih => exact ih.came h2
def argP (s : Sch) (p hd : Pc) (j : Nat) : List (Pc × Pc) := ((List.range j).filter fun j => decide (hd.2 + j < ar s hd.1)).map fun j => ((hd.1, hd.2 + j), (p.1, (ndS s p).2.getD j 0))
theorem argP_succ (s : Sch) (p hd : Pc) (j : Nat) : argP s p hd (j + 1) = argP s p hd j ++ if hd.2 + j < ar s hd.1 then [((hd.1, hd.2 + j), (p.1, (ndS s p).2.getD j 0))] else [] := by
  simp only [argP, List.range_succ, List.filter_append, List.map_append]
  by_cases e : hd.2 + j < ar s hd.1 <;> simp [e]
def flatW (s : Sch) (σ : St) (p : Pc) : List Pc := (pick2 σ.cl p).flatMap (wtOf s σ.bg)
def St.addH (σ : St) (p hd : Pc) : St := { σ with hl := σ.hl ++ [(p, hd)] }
def Add (s : Sch) (bl : List Bool) (P : Nat) (σ : St) (p hd : Pc) (σ' : St) : Prop :=
  ((p, hd) ∈ σ.hl ∧ σ' = σ) ∨ ((p, hd) ∉ σ.hl ∧ ∃ σ1, ComeL s P (σ.addH p hd) (if bl.getD p.1 false = true then argP s p hd (nA s p) else []) σ1 ∧
    σ' = σ1.push ((flatW s σ1 p).map fun q => clC 232 P (hd.2 + nA s p) (hd, q)))
theorem StOk.addH {s : Sch} {σ : St} (V : StOk s σ) {p hd : Pc} (hin : (p, hd) ∉ σ.hl) (hpb : p ∈ σ.bg) : StOk s (σ.addH p hd) := ⟨V.bgn, (by
      show (σ.hl ++ [(p, hd)]).Nodup
      rw [List.nodup_append]
      exact ⟨V.hln, by simp, fun a ha b hb => by
        have : b = (p, hd) := by simpa using hb
        subst this; rintro rfl; exact hin ha⟩), V.cln, V.kwn, V.kin, V.kw, V.ki, (fun e he => by
      rcases List.mem_append.1 he with he | he
      · exact V.hlb e he
      · have : e = (p, hd) := by simpa using he
        subst this; exact hpb), V.bgo, V.wn, V.wf, V.jf⟩
theorem RC.newBase {hb h : Heap} {c : Con} {l : Lo} (R : RC hb c l h) {i : Nat} (n : Node) (hi : h i = none) : RC (hb.set i n) c l (h.set i n) := by
  have hbi : hb i = none := by
    cases e : hb i with
    | none => rfl
    | some n => rw [R.fr i n e] at hi; cases hi
  refine ⟨fun b n' e => ?_, fun b n' e => ?_, R.inj, fun j n' hj => ?_⟩
  · rw [Heap.set_ne (R.ne e hi)]; exact R.own b _ e
  · rw [Heap.set_ne (R.ne e hi)]; exact R.new b _ e
  · by_cases e : j = i
    · subst e; rw [Heap.set_same] at hj ⊢; exact hj
    · rw [Heap.set_ne e] at hj ⊢; exact R.fr j n' hj
section
variable {hb h : Heap} {s : Sch} {bl : List Bool} {σ : St} {l : Lo}
theorem add_tail (V : StOk s σ) {i1 i4 P : Nat} {p hd : Pc} (R : RC ((hb.set i1 (.arr 1 [[.op P 0 0]])).set i4 (.arr 2 [plC hd])) (conS s bl σ l) l h) (hb1 : hb i1 = none) (hb4 : hb i4 = none) (n14 : i1 ≠ i4) (eP : l .pa = P) (hp : okP s p) (hm : hd.2 ≤ 1000000) (hna : nA s p ≤ 1000000)
    (hsz : σ.wk.length + (flatW s σ p).length ≤ 10000000000000) (hcl : σ.cl.length ≤ 1000000) {Q : AV → Heap → Prop}
    (hq : ∀ l' h', l' .pa = P → RC hb (conS s bl (σ.push ((flatW s σ p).map fun q => clC 232 P (hd.2 + nA s p) (hd, q))) l') l' h' → Q (.tup []) h') :
    fldA 1 (.op i4 0 0) fun p_62 =>
    loadV p_62 h fun x_63 =>
    loadV (.op i1 0 0) h fun x_64 =>
    nilA x_64 <|
    fldA 2 x_64 fun p_65 =>
    loadV p_65 h fun x_66 =>
    idxA 1 x_66 (I (p.1 : Nat)) h fun p_67 =>
    loadV p_67 h fun x_68 =>
    idxA 2 x_68 (I (p.2 : Nat)) h fun p_69 =>
    fldA 1 p_69 fun p_70 =>
    loadV p_70 h fun x_71 =>
    lenA x_71 fun x_72 =>
    binA .add x_63 x_72 fun x_73 =>
    newA 1 [(I 0)] h fun p_74 h_75 =>
    (loadV p_62 h_75 fun x_121 =>
    TV.av x_121 = TV.av x_63) ∧
    (loadV (.op i1 0 0) h_75 fun x_120 =>
    TV.av x_120 = TV.av x_64) ∧
    (loadV p_65 h_75 fun x_119 =>
    TV.av x_119 = TV.av x_66) ∧
    (idxA 1 x_66 (I (p.1 : Nat)) h_75 fun p_118 =>
    TV.av p_118 = TV.av p_67) ∧
    (loadV p_67 h_75 fun x_117 =>
    TV.av x_117 = TV.av x_68) ∧
    (idxA 2 x_68 (I (p.2 : Nat)) h_75 fun p_116 =>
    TV.av p_116 = TV.av p_69) ∧
    (loadV p_70 h_75 fun x_115 =>
    TV.av x_115 = TV.av x_71) ∧
    (oneA x_73 <|
    storeG p_74 [x_73] h_75 fun h_76 =>
    loadV (.op i1 0 0) h_76 fun x_77 =>
    nilA x_77 <|
    fldA 6 x_77 fun p_78 =>
    loadV p_78 h_76 fun x_79 =>
    lookA [(.int .i64), (.int .i64)] false .e0 x_79 (.agg [(I (p.1 : Nat)), (I (p.2 : Nat))]) h_76 fun x_80 =>
    lenA x_80 fun x_82 =>
    loopS (fun s_83 h_84 K_85 =>
    binA .lss (g s_83 0) x_82 fun x_86 =>
    brA x_86 (idxA 2 x_80 (g s_83 0) h_84 fun p_87 =>
    loadG 2 p_87 h_84 fun c_88 =>
    loadV (.op i1 0 0) h_84 fun x_89 =>
    nilA x_89 <|
    fldA 5 x_89 fun p_90 =>
    loadV p_90 h_84 fun x_91 =>
    lookA [(.int .i64), (.int .i64)] false .e0 x_91 (.agg [(g c_88 0), (g c_88 1)]) h_84 fun x_92 =>
    lenA x_92 fun x_94 =>
    loopS (fun s_95 h_96 K_97 =>
    binA .lss (g s_95 0) x_94 fun x_98 =>
    brA x_98 (idxA 2 x_92 (g s_95 0) h_96 fun p_99 =>
    loadG 2 p_99 h_96 fun c_100 =>
    newA 2 [(I 0), (I 0)] h_96 fun p_101 h_102 =>
    storeG p_101 [(g c_100 0), (g c_100 1)] h_102 fun h_103 =>
    loadV (.op i1 0 0) h_103 fun x_104 =>
    loadV (.op i1 0 0) h_103 fun x_105 =>
    nilA x_105 <|
    fldA 8 x_105 fun p_106 =>
    loadV p_106 h_103 fun x_107 =>
    oneA (.fn 232 [(.op i1 0 0), p_101, (.op i4 0 0), p_74]) <|
    appA 1 8 x_107 (.rs 1 [[(.fn 232 [(.op i1 0 0), p_101, (.op i4 0 0), p_74])]]) h_103 fun x_108 h_109 =>
    (loadV (.op i1 0 0) h_109 fun x_113 =>
    TV.av x_113 = TV.av x_104) ∧
    (nilA x_104 <|
    fldA 8 x_104 fun p_110 =>
    oneA x_108 <|
    storeG p_110 [x_108] h_109 fun h_111 =>
    binA .add (g s_95 0) (I 1) fun x_112 =>
    K_97 [x_112] h_111)) (binA .add (g s_83 0) (I 1) fun x_114 =>
    K_85 [x_114] h_96)) [(I 0)] h_84) (retA (.tup []) h_84 fun x h' => Wk [x] h' fun r h => Wk [g r 0] h fun r h => Q (g r 0) h)) [(I 0)] h_76) := by
  subst eP
  rw [w_fld_op, Nat.zero_add]
  have x4 : h i4 = some (.arr 2 [plC hd]) := R.fr i4 _ (Heap.set_same _ _ _)
  have x1 : h i1 = some (.arr 1 [[.op (l .pa) 0 0]]) := R.fr i1 _ (by rw [Heap.set_ne n14]; exact Heap.set_same _ _ _)
  have xa : h (l .pa) = some (.arr 10 [paC s bl σ l]) := R.own .pa _ rfl
  refine ld (x := I (hd.2 : Nat)) x4 (by omega) rfl ?_
  refine rd_nd x1 xa rfl hp ?_
  rw [w_len_rs, nCs_len, w_add, show IntKind.i64.wrap (((hd.2 : Nat) : Int) + ((ndS s p).2.length : Nat)) = ((hd.2 + nA s p : Nat) : Int) by
    have hna' : (ndS s p).2.length ≤ 1000000 := hna
    rw [wrap_i64 (by omega) (by omega)]; simp [nA]]
  intro i2 hi2
  have R0 := R.ofBase (.tmp 4) (by rw [Heap.set_ne n14.symm]; exact hb4)
  have R0 := R0.ofBase (.tmp 1) hb1
  have Rb := R0.mk' (.tmp 2) (.arr 1 [[I 0]]) hi2
  have n2 : ∀ {j n}, h j = some n → j ≠ i2 := fun {j n} hj e => by subst e; rw [hi2] at hj; cases hj
  have x1' : (h.set i2 (.arr 1 [[I 0]])) i1 = some (.arr 1 [[.op (l .pa) 0 0]]) := by rw [Heap.set_ne (n2 x1)]; exact x1
  have x4' : (h.set i2 (.arr 1 [[I 0]])) i4 = some (.arr 2 [plC hd]) := by rw [Heap.set_ne (n2 x4)]; exact x4
  have xa' : (h.set i2 (.arr 1 [[I 0]])) (l .pa) = some (.arr 10 [paC s bl σ l]) := by rw [Heap.set_ne (n2 xa)]; exact xa
  refine ⟨ld (x := I (hd.2 : Nat)) x4' (by omega) rfl rfl, ld x1' (by omega) rfl rfl, ld xa' (by omega) rfl rfl, ix_rs (by rw [NS_len]; exact hp.1) (NS_get hp.1) rfl, by rw [w_loadV_ro], ix_rs (by rw [ndCs_len, ndF_len]; exact hp.2) (nd_get hp) rfl, by rw [w_loadV_ro], ?_⟩
  rw [w_one_v]
  refine st_at (Heap.set_same _ _ _) (by omega) ?_
  rw [Heap.set_set]
  have est : ([I 0] : List AV).set 0 (I ((hd.2 + nA s p : Nat) : Int)) = [I (hd.2 + nA s p : Nat)] := rfl
  rw [est]
  clear Rb x1' x4' xa'
  have R1 := R0.mk' (.tmp 2) (.arr 1 [[I (hd.2 + nA s p : Nat)]]) hi2
  generalize h.set i2 (.arr 1 [[I (hd.2 + nA s p : Nat)]]) = h1 at *
  clear x1 x4 xa n2 hi2 R0 R
  obtain ⟨l1, hl1⟩ : ∃ l1, l1 = ((l.set (.tmp 4) i4).set (.tmp 1) i1).set (.tmp 2) i2 := ⟨_, rfl⟩
  rw [← hl1] at R1
  have l1n : ∀ a, (∀ n, a ≠ .tmp n) → l1 a = l a := fun a ha => by rw [hl1, Lo.set_ne (ha 2), Lo.set_ne (ha 1), Lo.set_ne (ha 4)]
  have l11 : l1 (.tmp 1) = i1 := by rw [hl1, Lo.set_ne (by simp), Lo.set_same]
  have l12 : l1 (.tmp 2) = i2 := by rw [hl1, Lo.set_same]
  have l14 : l1 (.tmp 4) = i4 := by rw [hl1, Lo.set_ne (by simp), Lo.set_ne (by simp), Lo.set_same]
  let X : Con := ((Con.nil.set (.tmp 1) (.arr 1 [[.op (l .pa) 0 0]])).set (.tmp 4) (.arr 2 [plC hd])).set (.tmp 2) (.arr 1 [[I (hd.2 + nA s p : Nat)]])
  have R2 : RC hb (ovl (conS s bl σ l1) X) l1 h1 := R1.weak fun a n ha => by
    have ec : conS s bl σ l1 = conS s bl σ l := by
      funext b; cases b <;> simp [conS, paC, wV, CSl, l1n]
    rw [ec] at ha
    cases a with
    | tmp m =>
      by_cases e1 : m = 1
      · subst e1; simpa [ovl, conS, X, Con.set] using ha
      by_cases e2 : m = 2
      · subst e2; simpa [ovl, conS, X, Con.set] using ha
      by_cases e4 : m = 4
      · subst e4; simpa [ovl, conS, X, Con.set] using ha
      · simp [ovl, conS, X, Con.set, Con.nil, e1, e2, e4] at ha
    | _ => first | (simp [ovl, conS, X, Con.set, Con.nil] at ha; done) | simpa [ovl, conS, X, Con.set, Con.nil] using ha
  clear R1
  have x1 : h1 i1 = some (.arr 1 [[.op (l .pa) 0 0]]) := by
    have := R2.own (.tmp 1) (.arr 1 [[.op (l .pa) 0 0]]) (by simp [ovl, conS, X, Con.set])
    rwa [l11] at this
  have xa : h1 (l .pa) = some (.arr 10 [paC s bl σ l1]) := by
    have := R2.own .pa (.arr 10 [paC s bl σ l1]) rfl
    rwa [l1n _ (by simp)] at this
  have xi : h1 (l1 .mi) = some (mpN σ.ki fun p => .os (l1 (.ia p)) (pick2 σ.cl p).length) := R2.own .mi _ rfl
  refine rdA x1 xa (by omega) rfl ?_
  refine look_c (k := p) xi ?_
  refine len_ia V ?_
  have hpl : (pick2 σ.cl p).length ≤ σ.cl.length := by
    simp only [pick2, List.length_map]; exact List.length_filter_le _ _
  let clo : Pc → AV := fun q => .fn 232 [.op i1 0 0, .ro (plC q), .op i4 0 0, .op i2 0 0]
  let fw : Nat → List Pc := fun j => ((pick2 σ.cl p).take j).flatMap (wtOf s σ.bg)
  have hjf : ∀ id cs x, x ∈ σ.jk → fzW id cs x = x := fun id cs x hx => (V.jf x hx).fz id cs
  have hwf : ∀ id cs x, x ∈ σ.wk → fzW id cs x = x := fun id cs x hx => (V.wf x hx).fz id cs
  refine loop_up (pick2 σ.cl p).length (fun j σ' h' => σ' = [I j] ∧ ∃ l', (∀ a, a ≠ .wk → a ≠ .tmp 3 → l' a = l1 a) ∧ RC hb (ovl (conS s bl (σ.push ((fw j).map clo)) l') X) l' h')
    ⟨rfl, l1, fun _ _ _ => rfl, by simpa [fw] using R2⟩ (fun k σ' h' ⟨e, _⟩ => by rw [e]; rfl) ?_
  clear R2 x1 xa xi
  rintro j σ' h' K hj ⟨rfl, l', hl', R⟩ hK
  have lX : ∀ a, (∀ n, a ≠ .tmp n) → a ≠ .wk → l' a = l a := fun a ha hd => by rw [hl' a hd (ha 3), l1n a ha]
  have l'1 : l' (.tmp 1) = i1 := by rw [hl' _ (by simp) (by simp), l11]
  have l'2 : l' (.tmp 2) = i2 := by rw [hl' _ (by simp) (by simp), l12]
  have l'4 : l' (.tmp 4) = i4 := by rw [hl' _ (by simp) (by simp), l14]
  by_cases hlt : j < (pick2 σ.cl p).length
  · have hlt' : (j : Int) < (pick2 σ.cl p).length := by omega
    have hki : p ∈ σ.ki := (V.ki p).2 fun e => by rw [e] at hlt; simp at hlt
    simp only [g_0, w_lss, hlt', decide_true, w_brA, if_true, hki]
    have xia : h' (l' (.ia p)) = some (.arr 2 ((pick2 σ.cl p).map plC)) := R.own (.ia p) _ (by simp [ovl, conS, St.push, hki])
    rw [lX _ (by simp) (by simp)] at xia
    rw [l1n _ (by simp), w_idx_os xia]
    refine ⟨rfl, by omega, hlt', by simp, ?_⟩
    rw [Int.toNat_natCast, w_loadG_op xia]
    have egd : ((pick2 σ.cl p).map plC).getD j [] = plC (pick2 σ.cl p)[j] := by simp [List.getD_eq_getElem?_getD, hlt]
    rw [egd]
    refine ⟨by simpa using hlt, by omega, ?_⟩
    simp only [List.drop_zero, g_0, g_1]
    generalize ek : (pick2 σ.cl p)[j] = k
    have x1 : h' i1 = some (.arr 1 [[.op (l .pa) 0 0]]) := by
      have := R.own (.tmp 1) (.arr 1 [[.op (l .pa) 0 0]]) (by simp [ovl, conS, X, Con.set])
      rwa [l'1] at this
    have xa : h' (l .pa) = some (.arr 10 [paC s bl (σ.push ((fw j).map clo)) l']) := by
      have := R.own .pa (.arr 10 [paC s bl (σ.push ((fw j).map clo)) l']) rfl
      rwa [lX _ (by simp) (by simp)] at this
    have xw : h' (l' .mw) = some (mpN σ.kw fun k => .os (l' (.wa k)) (wtOf s σ.bg k).length) := R.own .mw _ rfl
    refine rdA x1 xa (by omega) rfl ?_
    refine look_c (k := k) xw ?_
    refine len_wt V ?_
    have efw : fw (j + 1) = fw j ++ wtOf s σ.bg k := by
      simp only [fw]
      rw [List.take_succ_eq_append_getElem hlt, List.flatMap_append, ek]
      simp
    have hfl : (fw (j + 1)).length ≤ (flatW s σ p).length := by
      have : flatW s σ p = fw (j + 1) ++ ((pick2 σ.cl p).drop (j + 1)).flatMap (wtOf s σ.bg) := by
        simp only [fw, flatW]
        rw [← List.flatMap_append, List.take_append_drop]
      rw [this, List.length_append]; omega
    rw [efw, List.length_append] at hfl
    refine push_loop (σ := σ.push ((fw j).map clo)) (l := l') (X := X) (k := k) (i1 := i1) (i2 := i2) (i4 := i4) R (fun a ha hb => by simp [X, Con.set, Con.nil, ha, hb]) (by simp [X, Con.set, Con.nil]) l'1 l'2 l'4
      (by rw [lX .pa (by simp) (by simp)]; simp [X, Con.set]) (n2 := .arr 1 [[I (hd.2 + nA s p : Nat)]]) (by simp [X, Con.set]) (n4 := .arr 2 [plC hd]) (by simp [X, Con.set]) (fun x hx => ?_) (fun h => ?_) rfl rfl (fun hkn => ?_) (by simp only [St.push, List.length_append, List.length_map]; omega) fun l5 h5 hl5 R5 => ?_
    · rcases List.mem_append.1 hx with hx | hx
      · exact (V.wf x hx).fx _ _
      · obtain ⟨q, _, rfl⟩ := List.mem_map.1 hx
        refine ⟨232, _, rfl, fun y hy => ?_⟩
        simp only [List.mem_cons, List.not_mem_nil, or_false] at hy
        rcases hy with rfl | rfl | rfl | rfl
        · exact .inr ⟨.tmp 1, by simp [X, Con.set], by rw [l'1]⟩
        · exact .inl ⟨_, rfl⟩
        · exact .inr ⟨.tmp 4, by simp [X, Con.set], by rw [l'4]⟩
        · exact .inr ⟨.tmp 2, by simp [X, Con.set], by rw [l'2]⟩
    · simp only [St.push, Bool.or_eq_false_iff, Bool.not_eq_false'] at h
      have h6 : (fw j).map clo = [] := by simpa using h.2
      simp only [St.push, h6, V.wn h.1, List.append_nil]
    · have := mt (V.kw k).2 hkn
      simpa [St.push] using this
    · rw [w_add, wrap_k (k := j) (by omega)]
      refine hK hlt _ _ ⟨rfl, l5, fun a ha hb => by rw [hl5 a ha hb]; exact hl' a ha hb, ?_⟩
      have e2 : wtOf s (σ.push ((fw j).map clo)).bg k = wtOf s σ.bg k := rfl
      rw [e2, push_push] at R5
      rw [efw, List.map_append]
      exact R5
  · have hjn : j = (pick2 σ.cl p).length := by omega
    subst hjn
    simp only [g_0, w_lss, Int.lt_irrefl, decide_false, w_brA, Bool.false_eq_true, if_false]
    have efw : fw (pick2 σ.cl p).length = flatW s σ p := by simp [fw, flatW]
    rw [efw] at R
    have n12 : i1 ≠ i2 := fun e => by
      have := R.inj (.tmp 1) (.tmp 2) (.arr 1 [[.op (l .pa) 0 0]]) (.arr 1 [[I (hd.2 + nA s p : Nat)]]) (by simp [ovl, conS, X, Con.set]) (by simp [ovl, conS, X, Con.set]) (by rw [l'1, l'2, e])
      simp at this
    have n42 : i4 ≠ i2 := fun e => by
      have := R.inj (.tmp 4) (.tmp 2) (.arr 2 [plC hd]) (.arr 1 [[I (hd.2 + nA s p : Nat)]]) (by simp [ovl, conS, X, Con.set]) (by simp [ovl, conS, X, Con.set]) (by rw [l'4, l'2, e])
      simp at this
    obtain ⟨h2, r1, R2⟩ := R.fzS (t := 2) (sz := 1) (cs := [I (hd.2 + nA s p : Nat)]) (by simp [X, Con.set]) rfl (by simp [X, Con.set, Con.nil])
    obtain ⟨h3, r2, R3⟩ := R2.fzS (t := 4) (sz := 2) (cs := plC hd) (by simp [X, Con.set, Con.del]) rfl (by simp [X, Con.set, Con.nil, Con.del])
    obtain ⟨h4, r3, R4⟩ := R3.fzS (t := 1) (sz := 1) (cs := [.op (l .pa) 0 0]) (by simp [X, Con.set, Con.del]) rfl (by simp [X, Con.set, Con.nil, Con.del])
    refine retA_wk .refl r1 (Wk.one (Q := fun x h => Wk [x] h fun r h => Q (g r 0) h) .refl r2 (Wk.one .refl r3 ?_))
    rw [push_mapW _ _ (hwf _ _) (hjf _ _), push_mapW _ _ (hwf _ _) (hjf _ _), push_mapW _ _ (hwf _ _) (hjf _ _), l'1, l'2, l'4, List.map_map, List.map_map, List.map_map] at R4
    have e3 : (flatW s σ p).map (((fzW i1 [.op (l .pa) 0 0] ∘ fzW i4 (plC hd)) ∘ fzW i2 [I (hd.2 + nA s p : Nat)]) ∘ clo) = (flatW s σ p).map fun q => clC 232 (l .pa) (hd.2 + nA s p) (hd, q) := List.map_congr_left fun x hx => by
      simp [clo, clC, fzW, fzA, n12, n42, n14]
    rw [e3] at R4
    refine hq l' h4 (lX _ (by simp) (by simp)) (R4.weak fun a n ha => ?_)
    show (conS s bl (σ.push ((flatW s σ p).map fun q => clC 232 (l .pa) (hd.2 + nA s p) (hd, q))) l' a).or _ = some n
    rw [ha]; rfl
theorem add_c (V : StOk s σ) (R : RC hb (conS s bl σ l) l h) {p hd : Pc} (hpb : p ∈ σ.bg) (hg : hd.1 < s.funs.length) (hm : hd.2 ≤ 1000000) (hna : nA s p ≤ 1000000) (har : ar s hd.1 ≤ 1000000) (hp2 : p.2 ≤ 1000000) (hbl : bl.length = s.funs.length)
    (hall : ∀ q, okP s q → bl.getD q.1 false = true → q ∈ σ.bg) (harg : ∀ j, j < nA s p → okP s (p.1, (ndS s p).2.getD j 0))
    (hsz : (p, hd) ∉ σ.hl → ∀ L σ1, ComeL s (l .pa) (σ.addH p hd) L σ1 → (∃ j, j ≤ nA s p ∧ L = argP s p hd j) → (L = [] ∨ bl.getD p.1 false = true) → σ1.cl.length ≤ 1000000 ∧ (∀ k q, q ∈ σ.bg → okK s k → σ1.wk.length + (pick σ1.hl q).length * (wtOf s σ1.bg k).length ≤ 10000000000000) ∧ σ1.wk.length + (flatW s σ1 p).length ≤ 10000000000000)
    {Q : AV → Heap → Prop} (hq : ∀ σ' l' h', Add s bl (l .pa) σ p hd σ' → l' .pa = l .pa → RC hb (conS s bl σ' l') l' h' → Q (.tup []) h') : ACalls prog n_flow_analysis_add [.op (l .pa) 0 0, kC p, kC hd] h Q := by
  have hp := V.bgo p hpb
  refine ACalls.wk (ACalls.wk ?_)
  refine flow_analysis_add_call ?_
  unfold flow_analysis_add
  rw [w_one_op]
  intro i1 hi1
  simp only [w_agg, List.length_cons, List.length_nil, true_and, g_0, g_1]
  intro i4 hi4
  have R0 := (R.newBase (.arr 1 [[.op (l .pa) 0 0]]) hi1).newBase (.arr 2 [plC hd]) hi4
  have hb1 : hb i1 = none := by
    cases e : hb i1 with
    | none => rfl
    | some n => rw [R.fr i1 n e] at hi1; cases hi1
  have n14 : i1 ≠ i4 := fun e => by subst e; rw [Heap.set_same] at hi4; cases hi4
  have hb4 : hb i4 = none := by
    cases e : hb i4 with
    | none => rfl
    | some n => rw [Heap.set_ne n14.symm, R.fr i4 n e] at hi4; cases hi4
  generalize (h.set i1 (.arr 1 [[.op (l .pa) 0 0]])).set i4 (.arr 2 [plC hd]) = h1 at *
  have x1 : h1 i1 = some (.arr 1 [[.op (l .pa) 0 0]]) := R0.fr i1 _ (by rw [Heap.set_ne n14]; exact Heap.set_same _ _ _)
  have x4 : h1 i4 = some (.arr 2 [plC hd]) := R0.fr i4 _ (Heap.set_same _ _ _)
  have xa : h1 (l .pa) = some (.arr 10 [paC s bl σ l]) := R0.own .pa _ rfl
  have xh : h1 (l .mh) = some (mpN σ.bg fun p => .mp (l (.hm p))) := R0.own .mh _ rfl
  have xm : h1 (l (.hm p)) = some (mpN (pick σ.hl p) fun _ => B true) := R0.own (.hm p) _ (by simp [conS, hpb])
  have ldg : ∀ {K : List AV → Prop}, K [I (hd.1 : Nat), I (hd.2 : Nat)] → loadG 2 (.op i4 0 0) h1 K := fun {K} hk => by
    rw [w_loadG_op x4]; exact ⟨by simp, by omega, hk⟩
  refine rdA x1 xa (by omega) rfl (ldg ?_)
  refine look_c (k := p) (ks := σ.bg) (v := fun p => .mp (l (.hm p))) xh ?_
  simp only [hpb, if_true, g_0, g_1]
  refine ⟨ldg rfl, ?_⟩
  refine look_c (k := hd) xm ?_
  by_cases hin : (p, hd) ∈ σ.hl
  · simp only [mem_pick, hin, if_true, w_brA]
    refine retA_of (Wk.refl (Wk.refl (hq σ l h1 (.inl ⟨hin, rfl⟩) rfl ?_)))
    exact ⟨R0.own, fun a n e => R.new a n e, R0.inj, fun j n hj => R0.fr j n (by
      have n1 : j ≠ i1 := fun e => by subst e; rw [hb1] at hj; cases hj
      have n4 : j ≠ i4 := fun e => by subst e; rw [hb4] at hj; cases hj
      rw [Heap.set_ne n4, Heap.set_ne n1]; exact hj)⟩
  simp only [mem_pick, hin, if_false, w_brA, Bool.false_eq_true]
  refine rdA x1 xa (by omega) rfl (ldg ?_)
  refine look_c (k := p) (ks := σ.bg) (v := fun p => .mp (l (.hm p))) xh ?_
  simp only [hpb, if_true, g_0, g_1]
  refine ⟨ldg rfl, ?_⟩
  refine upd_c (k := hd) (pick_nodup V.hln p) xm ?_
  rw [mp_true (by simpa using hin)]
  have R1 := R0.upd (a := .hm p) (mpN (pick σ.hl p ++ [hd]) fun _ => B true) (m := mpN (pick σ.hl p) fun _ => B true) (by simp [conS, hpb])
  generalize h1.set (l (.hm p)) (mpN (pick σ.hl p ++ [hd]) fun _ => B true) = h2 at *
  have R2 : RC ((hb.set i1 (.arr 1 [[.op (l .pa) 0 0]])).set i4 (.arr 2 [plC hd])) (conS s bl (σ.addH p hd) l) l h2 := R1.weak fun a n ha => by
    cases a with
    | hm q =>
      by_cases e : q = p
      · subst e; simpa [conS, St.addH, pick_snoc, hpb, Con.set] using ha
      · have e' : ¬ p = q := fun h => e h.symm
        simpa [conS, St.addH, pick_snoc, e', e, Con.set] using ha
    | _ =>
      rw [Con.set_ne (by simp)]
      exact ha
  have V2 : StOk s (σ.addH p hd) := V.addH hin hpb
  clear R0 R1 x1 x4 xa xh xm ldg
  have x1 : h2 i1 = some (.arr 1 [[.op (l .pa) 0 0]]) := R2.fr i1 _ (by rw [Heap.set_ne n14]; exact Heap.set_same _ _ _)
  have xa : h2 (l .pa) = some (.arr 10 [paC s bl (σ.addH p hd) l]) := R2.own .pa _ rfl
  refine rdA (x := .rs 1 (bCs bl)) x1 xa (by omega) rfl ?_
  refine ix_rs (by rw [bCs_len, hbl]; exact hp.1) (bCs_get (by rw [hbl]; exact hp.1)) ?_
  rw [w_loadV_ro]
  cases hr : bl.getD p.1 false with
  | false =>
    simp only [w_brA, Bool.false_eq_true, if_false]
    obtain ⟨z1, z2, z3⟩ := hsz hin [] _ .nil ⟨0, by omega, by simp [argP]⟩ (.inl rfl)
    refine add_tail V2 R2 hb1 hb4 n14 rfl hp hm hna z3 z1 fun l' h' e1 e2 => ?_
    exact hq _ l' h' (.inr ⟨hin, _, by rw [hr]; exact .nil, rfl⟩) e1 e2
  | true =>
    simp only [w_brA, if_true]
    refine rd_nd x1 xa rfl hp ?_
    rw [w_len_rs, nCs_len]
    refine loop_up (nA s p) (fun j σ' h' => σ' = [I j] ∧ ∃ l' σ1, l' .pa = l .pa ∧ ComeL s (l .pa) (σ.addH p hd) (argP s p hd j) σ1 ∧ RC ((hb.set i1 (.arr 1 [[.op (l .pa) 0 0]])).set i4 (.arr 2 [plC hd])) (conS s bl σ1 l') l' h')
      ⟨rfl, l, _, rfl, by simpa [argP] using ComeL.nil, R2⟩ (fun k σ' h' ⟨e, _⟩ => by rw [e]; rfl) ?_
    clear R2 x1 xa
    rintro j σ' h' K hj ⟨rfl, l', σ1, el, hc, R⟩ hK
    have V1 := hc.ok V2
    obtain ⟨eb, eh, _⟩ := hc.bg
    obtain ⟨z1, z2, z3⟩ := hsz hin _ _ hc ⟨j, hj, rfl⟩ (.inr hr)
    have x1 : h' i1 = some (.arr 1 [[.op (l .pa) 0 0]]) := R.fr i1 _ (by rw [Heap.set_ne n14]; exact Heap.set_same _ _ _)
    have x4 : h' i4 = some (.arr 2 [plC hd]) := R.fr i4 _ (Heap.set_same _ _ _)
    have xa : h' (l .pa) = some (.arr 10 [paC s bl σ1 l']) := by rw [← el]; exact R.own .pa _ rfl
    simp only [g_0]
    by_cases hlt : j < nA s p
    · have hlt' : (j : Int) < (ndS s p).2.length := by have : nA s p = (ndS s p).2.length := rfl; omega
      have hlt2 : j < (ndS s p).2.length := hlt
      simp only [w_lss, hlt', decide_true, w_brA, if_true]
      have hwk : IntKind.i64.wrap ((j : Int) + 1) = ((j + 1 : Nat) : Int) := wrap_k (by omega)
      refine ix_rs (cs := [I ((ndS s p).2.getD j 0 : Nat)]) (by simpa using hlt2) (by rw [nCs_get hlt2]; simp [List.getD_eq_getElem?_getD, hlt2]) ?_
      rw [w_loadV_ro, w_fld_op, Nat.zero_add]
      refine ld (x := I (hd.2 : Nat)) x4 (by omega) rfl ?_
      rw [w_add, show IntKind.i64.wrap (((hd.2 : Nat) : Int) + (j : Nat)) = ((hd.2 + j : Nat) : Int) by rw [wrap_i64 (by omega) (by omega)]; simp]
      refine rdA (x := .rs 1 (CSl s l')) x1 xa (by omega) rfl ?_
      rw [w_fld_op]
      refine ld (x := I (hd.1 : Nat)) x4 (by omega) rfl ?_
      refine ix_rs (by rw [CSl_len]; exact hg) (CSl_get l' hg) ?_
      rw [w_loadV_ro, w_len_rs]
      simp only [List.length_map, List.length_range, w_lss]
      by_cases hc2 : hd.2 + j < ar s hd.1
      · have hc3 : ((hd.2 + j : Nat) : Int) < (ar s hd.1 : Nat) := by omega
        simp only [hc3, decide_true, w_brA, if_true]
        refine ld (x := .op (l .pa) 0 0) x1 (by omega) rfl ?_
        rw [w_fld_op]
        refine ld (x := I (hd.1 : Nat)) x4 (by omega) rfl ?_
        rw [w_one_v, w_one_v]
        refine callS_of ?_
        have hq2 := harg j hlt
        have hb2 : ((p.1, (ndS s p).2.getD j 0) : Pc) ∈ σ1.bg := by rw [eb]; exact hall _ hq2 hr
        rw [← el]
        refine come_c (k := (hd.1, hd.2 + j)) (p := (p.1, (ndS s p).2.getD j 0)) V1 R ⟨hg, hc2⟩ hq2 hb2 z1 (z2 _ _ (by rw [eb] at hb2; exact hb2) ⟨hg, hc2⟩) fun σ2 l2 h2 hcm e1 e2 => ?_
        rw [w_add, hwk]
        refine hK hlt _ _ ⟨rfl, l2, σ2, e1.trans el, ?_, e2⟩
        rw [argP_succ, if_pos hc2]
        rw [el] at hcm
        exact .snoc hc hcm
      · have hc3 : ¬ ((hd.2 + j : Nat) : Int) < (ar s hd.1 : Nat) := by omega
        simp only [hc3, decide_false, w_brA, if_false, Bool.false_eq_true]
        rw [w_add, hwk]
        refine hK hlt _ _ ⟨rfl, l', σ1, el, ?_, R⟩
        rw [argP_succ, if_neg hc2, List.append_nil]
        exact hc
    · have hjn : j = nA s p := by omega
      subst hjn
      have : ¬ ((nA s p : Nat) : Int) < ((ndS s p).2.length : Nat) := by simp [nA]
      simp only [this, w_lss, decide_false, w_brA, Bool.false_eq_true, if_false]
      refine add_tail V1 R hb1 hb4 n14 el hp hm hna z3 z1 fun l' h' e1 e2 => ?_
      exact hq _ l' h' (.inr ⟨hin, _, by rw [hr]; exact hc, rfl⟩) e1 e2
end
end Am
