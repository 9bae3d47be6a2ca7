/- The reference: known, the least fixed point. -/
import Derived.Test.YtoifckjdnldlpaaZGc
set_option linter.unusedVariables false
set_option linter.unusedSimpArgs false
namespace Am
open Go Go.Proofs.Try
structure KRes (s : Sch) (bl : List Bool) (σ : KS) : Prop where
  inv : KInv s (Rb bl) σ
  hd : ∀ p h, FlP s (Rb bl) false p h → h ∈ σ.hd p
  cm : ∀ k p, FlP s (Rb bl) true k p → p ∈ σ.cm k
section
variable {hb h : Heap} {s : Sch} {l : Lo} {bl : List Bool}
theorem look' {R : Nat → Prop} {σ : KS} (H : SOk s) (Sm : Small s) (I0 : KInv s R σ) (Rc : RC hb (conK s σ l) l h) {P : Nat} (hP : l .pa = P) {q : Pc} (hq : okP s q) {Q : AV → Heap → Prop}
    (hQ : ∀ σ' l' h', Look s R σ q σ' → l' .pa = P → RC hb (conK s σ' l') l' h' → Q (.tup []) h') : ACalls prog n_vref19_state_look [.op P 0 0, I (q.1 : Nat), I (q.2 : Nat)] h Q := by
  subst hP; exact vref19_look_c H Sm I0 Rc hq hQ
theorem pass' {R : Nat → Prop} {σ : KS} (H : SOk s) (Sm : Small s) (I0 : KInv s R σ) (Rc : RC hb (conK s σ l) l h) {P : Nat} (hP : l .pa = P) {q : Pc} (hq : okP s q) (hr : R q.1) {Q : AV → Heap → Prop}
    (hQ : ∀ σ' h', Pass s R σ q σ' → RC hb (conK s σ' l) l h' → Q (.tup []) h') : ACalls prog n_vref19_state_pass [.op P 0 0, I (q.1 : Nat), I (q.2 : Nat)] h Q := by
  subst hP; exact vref19_pass_c H Sm I0 Rc hq hr hQ
theorem size' {R : Nat → Prop} {σ : KS} (H : SOk s) (Sm : Small s) (I0 : KInv s R σ) (Rc : RC hb (conK s σ l) l h) {P : Nat} (hP : l .pa = P) {Q : AV → Heap → Prop} (hq : Q (I (szK s σ : Nat)) h) : ACalls prog n_vref19_state_size [.op P 0 0] h Q := by
  subst hP; exact vref19_size_c H Sm I0 Rc hq
theorem Look.grow {R : Nat → Prop} {σ σ' : KS} {q : Pc} (L : Look s R σ q σ') : GrowK σ σ' :=
  ⟨fun p h hh => by
    by_cases e : p = q
    · subst e; exact L.ext h hh
    · rw [L.oth p e]; exact hh, fun k p hp => by rw [L.cm]; exact hp⟩
theorem Pass.grow {R : Nat → Prop} {σ σ' : KS} {q : Pc} (L : Pass s R σ q σ') : GrowK σ σ' :=
  ⟨fun p h hh => by rw [L.hd]; exact hh, L.ext⟩
theorem Proc.of {R : Nat → Prop} {σ0 σ1 σ2 σ3 : KS} {q : Pc} (g : GrowK σ0 σ1) (L : Look s R σ1 q σ2) (g2 : GrowK σ2 σ3) (A : R q.1 → Pass s R σ2 q σ3) : Proc s R σ0 σ3 q :=
  ⟨fun f hf => g2.hd _ _ (L.fn f hf), fun i hi p hp hh hhh => g2.hd _ _ (L.var i hi p (g.cm _ _ hp) hh (g.hd _ _ hhh)), fun hr hh hhh j hj hc => (A hr).arg hh (L.ext hh (g.hd _ _ hhh)) j hj hc⟩
theorem pass_all (H : SOk s) (Sm : Small s) (hbl : IsR s bl) {σ0 : KS} (I0 : KInv s (Rb bl) σ0) (Rc : RC hb (conK s σ0 l) l h) {P : Nat} (hP : l .pa = P) {K : Heap → Prop}
    (hK : ∀ σ' l' h', l' .pa = P → RC hb (conK s σ' l') l' h' → KInv s (Rb bl) σ' → GrowK σ0 σ' → (∀ q, okP s q → Proc s (Rb bl) σ0 σ' q) → K h') :
     loopS (fun s_51 h_52 K_53 =>
     binA .lss (g s_51 0) (I (s.funs.length : Nat)) fun x_54 =>
     brA x_54 (nilA (.op P 0 0) <|
     fldA 2 (.op P 0 0) fun p_55 =>
     loadV p_55 h_52 fun x_56 =>
     idxA 1 x_56 (g s_51 0) h_52 fun p_57 =>
     loadV p_57 h_52 fun x_58 =>
     lenA x_58 fun x_59 =>
     loopS (fun s_60 h_61 K_62 =>
     binA .lss (g s_60 0) x_59 fun x_63 =>
     brA x_63 (callS prog n_vref19_state_look [(.op P 0 0), (g s_51 0), (g s_60 0)] h_61 fun r_64 h_65 =>
     idxA 1 (.rs 1 (bCs bl)) (g s_51 0) h_65 fun p_66 =>
     loadV p_66 h_65 fun x_67 =>
     brA x_67 (callS prog n_vref19_state_pass [(.op P 0 0), (g s_51 0), (g s_60 0)] h_65 fun r_68 h_69 =>
     binA .add (g s_60 0) (I 1) fun x_70 =>
     K_62 [x_70] h_69) (binA .add (g s_60 0) (I 1) fun x_71 =>
     K_62 [x_71] h_65)) (binA .add (g s_51 0) (I 1) fun x_72 =>
     K_53 [x_72] h_61)) [(I 0)] h_52) (K h_52)) [(I 0)] h := by
  have hfew := H.few
  let G : (Pc → Prop) → Heap → Prop := fun B h' => ∃ σ l, l .pa = P ∧ RC hb (conK s σ l) l h' ∧ KInv s (Rb bl) σ ∧ GrowK σ0 σ ∧ ∀ q, okP s q → B q → Proc s (Rb bl) σ0 σ q
  have GB : ∀ {B B' : Pc → Prop} {h' : Heap}, G B h' → (∀ q, okP s q → B' q → B q) → G B' h' := fun ⟨σ, l, a, b, c, d, e⟩ hh => ⟨σ, l, a, b, c, d, fun q hq hb => e q hq (hh q hq hb)⟩
  refine loop_up s.funs.length (fun f σ' h' => σ' = [I f] ∧ G (fun q => q.1 < f) h') ⟨rfl, σ0, l, hP, Rc, I0, GrowK.refl _, fun q _ h0 => by omega⟩ (fun k σ' h' ⟨e, _⟩ => by rw [e]; rfl) ?_
  rintro f σ' h1 K1 hf ⟨rfl, hG⟩ hK1
  simp only [g_0]
  by_cases hlt : f < s.funs.length
  · have hlt' : (f : Int) < s.funs.length := by omega
    have hn4 := nN_le H hlt
    simp only [w_lss, hlt', decide_true, w_brA, if_true]
    have rd : ∀ {K : AV → Prop}, K (.rs 3 (tmCs (preT_ (s.funs.getD f default).body))) → (nilA (.op P 0 0) <| fldA 2 (.op P 0 0) fun p_55 => loadV p_55 h1 fun x_56 => idxA 1 x_56 (I (f : Nat)) h1 fun p_57 => loadV p_57 h1 K) := fun {K} hk => by
      obtain ⟨σ, l1, e1, R1, _⟩ := hG
      have xa : h1 P = some (.arr 5 [[.rs 2 (syCs s.syms), .rs 5 (fnCs s.funs), .rs 1 (NR s), .rs 1 (HR s l1), .rs 1 (CR s l1)]]) := by rw [← e1]; exact R1.own .pa _ rfl
      refine rdK (x := .rs 1 (NR s)) xa (by omega) rfl ?_
      refine ix_rs (by rw [NR_len]; exact hlt) (NR_get hlt) ?_
      rw [w_loadV_ro]; exact hk
    refine rd ?_
    have hle : (tmCs (preT_ (s.funs.getD f default).body)).length = nN s f := by rw [tmCs_len, pre_len]; rfl
    rw [w_len_rs, hle]
    refine loop_up (nN s f) (fun i σ' h' => σ' = [I i] ∧ G (fun q => q.1 < f ∨ (q.1 = f ∧ q.2 < i)) h') ⟨rfl, GB hG fun q _ hb => by omega⟩ (fun k σ' h' ⟨e, _⟩ => by rw [e]; rfl) ?_
    rintro i σ' h2 K2 hi ⟨rfl, σ1, l1, e1, R1, I1, g1, p1⟩ hK2
    simp only [g_0]
    by_cases hlt2 : i < nN s f
    · have hlt2' : (i : Int) < (nN s f : Nat) := by omega
      simp only [w_lss, hlt2', decide_true, w_brA, if_true]
      have hq : okP s (f, i) := ⟨hlt, hlt2⟩
      refine callS_of (look' (q := (f, i)) H Sm I1 R1 e1 hq fun σ2 l2 h3 L e2 R2 => ?_)
      have hblf : f < bl.length := by rw [hbl.1]; exact hlt
      refine ix_rs (by rw [bCs_len]; exact hblf) (bCs_get hblf) ?_
      simp only [w_loadV_ro, g_0, w_brA, w_add, wrap_k (k := i) (show i ≤ 4611686018427387904 by omega)]
      have fin : ∀ {h4 : Heap} {σ3 : KS}, RC hb (conK s σ3 l2) l2 h4 → KInv s (Rb bl) σ3 → GrowK σ2 σ3 → (bl.getD f false = true → Pass s (Rb bl) σ2 (f, i) σ3) → K2 [I ((i + 1 : Nat) : Int)] h4 := fun {h4 σ3} R3 I3 g3 A => by
        refine hK2 hlt2 _ _ ⟨rfl, σ3, l2, e2, R3, I3, g1.trans (L.grow.trans g3), fun q hq hb => ?_⟩
        by_cases e : q = (f, i)
        · subst e; exact Proc.of g1 L g3 A
        · have : q.1 < f ∨ (q.1 = f ∧ q.2 < i) := by
            rcases hb with hb | ⟨hb1, hb2⟩
            · exact .inl hb
            · have : q.2 ≠ i := fun e2 => e (Prod.ext hb1 e2)
              exact .inr ⟨hb1, by omega⟩
          exact (p1 q hq this).mono (L.grow.trans g3)
      cases hbf : bl.getD f false with
      | true =>
        simp only [if_true]
        refine callS_of (pass' (q := (f, i)) H Sm L.inv R2 e2 hq hbf fun σ3 h4 A R3 => ?_)
        exact fin R3 A.inv A.grow fun _ => A
      | false =>
        simp only [Bool.false_eq_true, if_false]
        exact fin R2 L.inv (GrowK.refl _) fun h => by rw [hbf] at h; cases h
    · have hie : i = nN s f := by omega
      subst hie
      simp only [w_lss, Int.lt_irrefl, decide_false, w_brA, Bool.false_eq_true, if_false]
      rw [w_add, wrap_k (k := f) (by omega)]
      refine hK1 hlt _ _ ⟨rfl, GB ⟨σ1, l1, e1, R1, I1, g1, p1⟩ fun q hq hb => ?_⟩
      by_cases e : q.1 < f
      · exact .inl e
      · have e2 : q.1 = f := by omega
        exact .inr ⟨e2, by have := hq.2; unfold nN; rw [← e2]; exact this⟩
  · have hfe : f = s.funs.length := by omega
    subst hfe
    simp only [w_lss, Int.lt_irrefl, decide_false, w_brA, Bool.false_eq_true, if_false]
    obtain ⟨σ1, l1, e1, R1, I1, g1, p1⟩ := hG
    exact hK σ1 l1 h1 e1 R1 I1 g1 fun q hq => p1 q hq hq.1
theorem vref19_known_c (H : SOk s) (Sm : Small s) {Q : AV → Heap → Prop}
    (hQ : ∀ bl σ l' h', IsR s bl → KRes s bl σ → RC h (conK s σ l') l' h' → Q (.op (l' .pa) 0 0) h') : ACalls prog n_vref19_known [sm s] h Q := by
  have hfew := H.few
  have hpos := H.pos
  refine vref19_known_call ?_
  unfold vref19_known sm
  simp only [w_agg, List.length_cons, List.length_nil, true_and, g_0, g_1, w_len_rs, fnCs_len]
  intro P hPn
  have R0 : RC h (con5 s 0 (Lo.set (fun _ => 0) .pa P)) (Lo.set (fun _ => 0) .pa P) (h.set P (.arr 5 [kPa s .e0 .e0 .e0])) := ((RC.start (hb := h)).mk' .pa (.arr 5 [kPa s .e0 .e0 .e0]) hPn).weak fun a n ha => by
    cases a with
    | pa => simpa [con5, oN, Con.set] using ha
    | _ => simp [con5] at ha
  refine loop_upW s.funs.length (fun f σ' h' => σ' = [I f] ∧ ∃ l, l .pa = P ∧ RC h (con5 s f l) l h') (Wk.refl ⟨rfl, _, Lo.set_same _ _ _, R0⟩) (fun k σ' h' ⟨e, _⟩ => by rw [e]; rfl) ?_
  rintro f σ' h1 K hf ⟨rfl, l, eP, R⟩ hK
  simp only [g_0]
  by_cases hlt : f < s.funs.length
  · have hlt' : (f : Int) < s.funs.length := by omega
    simp only [w_lss, hlt', decide_true, w_brA, if_true]
    exact round5 H R eP hlt fun l2 h2 h3 e r R2 => hK hlt _ _ (Wk.none r ⟨rfl, l2, e, R2⟩)
  have hfe : f = s.funs.length := by omega
  subst hfe
  simp only [w_lss, Int.lt_irrefl, decide_false, w_brA, Bool.false_eq_true, if_false]
  have hf0 : ¬ s.funs.length = 0 := by omega
  clear hK R0
  have one : ∀ (x : List AV) (i : Nat), i < [x].length → ([x].getD i []).length = x.length := fun x i hi => by
    have : i = 0 := by simpa using hi
    subst this; rfl
  obtain ⟨h2, r2, R2⟩ := R.frzEl (a := .nb) (b := .pa) (n := 0) (j := 2) (sz := 1) (zb := 5) (len := s.funs.length) (els := NR s) (elsb := [kPa s (.os (l .nb) s.funs.length) (.os (l .mh) s.funs.length) (.os (l .cb) s.funs.length)])
    (by simp only [con5, hf0, if_false]; rw [List.take_of_length_le (by rw [NR_len]; omega)]) (by simp only [con5, oN, hf0, if_false]) (by simp) (by simp) (by omega) (one _) rfl NR_len (fun i hi => by rw [NR_get (by rwa [NR_len] at hi)]; rfl)
  have q2 : ([kPa s (.os (l .nb) s.funs.length) (.os (l .mh) s.funs.length) (.os (l .cb) s.funs.length)].set 0 (([kPa s (.os (l .nb) s.funs.length) (.os (l .mh) s.funs.length) (.os (l .cb) s.funs.length)].getD 0 []).set 2 (.rs 1 (NR s)))) = [kPa s (.rs 1 (NR s)) (.os (l .mh) s.funs.length) (.os (l .cb) s.funs.length)] := rfl
  rw [q2] at R2
  obtain ⟨h3, r3, R3⟩ := R2.frzEl (a := .mh) (b := .pa) (n := 0) (j := 3) (sz := 1) (zb := 5) (len := s.funs.length) (els := HR s l) (elsb := [kPa s (.rs 1 (NR s)) (.os (l .mh) s.funs.length) (.os (l .cb) s.funs.length)])
    (by simp only [Con.set, Con.del, con5, hf0, if_false]; simp; rw [List.take_of_length_le (by rw [HR_len]; omega)]) (by simp [Con.set]) (by simp) (by simp) (by omega) (one _) rfl HR_len (fun i hi => by rw [HR_get (by rwa [HR_len] at hi)]; rfl)
  have q3 : ([kPa s (.rs 1 (NR s)) (.os (l .mh) s.funs.length) (.os (l .cb) s.funs.length)].set 0 (([kPa s (.rs 1 (NR s)) (.os (l .mh) s.funs.length) (.os (l .cb) s.funs.length)].getD 0 []).set 3 (.rs 1 (HR s l)))) = [kPa s (.rs 1 (NR s)) (.rs 1 (HR s l)) (.os (l .cb) s.funs.length)] := rfl
  rw [q3] at R3
  obtain ⟨h4, r4, R4⟩ := R3.frzEl (a := .cb) (b := .pa) (n := 0) (j := 4) (sz := 1) (zb := 5) (len := s.funs.length) (els := CR s l) (elsb := [kPa s (.rs 1 (NR s)) (.rs 1 (HR s l)) (.os (l .cb) s.funs.length)])
    (by simp only [Con.set, Con.del, con5, hf0, if_false]; simp; rw [List.take_of_length_le (by rw [CR_len]; omega)]) (by simp [Con.set]) (by simp) (by simp) (by omega) (one _) rfl CR_len (fun i hi => by rw [CR_get (by rwa [CR_len] at hi)]; rfl)
  have q4 : ([kPa s (.rs 1 (NR s)) (.rs 1 (HR s l)) (.os (l .cb) s.funs.length)].set 0 (([kPa s (.rs 1 (NR s)) (.rs 1 (HR s l)) (.os (l .cb) s.funs.length)].getD 0 []).set 4 (.rs 1 (CR s l)))) = [kPa s (.rs 1 (NR s)) (.rs 1 (HR s l)) (.rs 1 (CR s l))] := rfl
  rw [q4] at R4
  have R5 : RC h (conK s ⟨fun _ => [], fun _ => []⟩ l) l h4 := R4.weak fun a n ha => by
    cases a with
    | pa =>
      simp only [conK] at ha
      simpa [Con.set, kPa] using ha
    | cs f =>
      by_cases e : f < s.funs.length
      · simp only [conK, hV, e, if_true] at ha
        simpa [Con.set, Con.del, con5, e, List.map_const'] using ha
      · simp [conK, e] at ha
    | tmp f =>
      by_cases e : f < s.funs.length
      · simp only [conK, e, if_true] at ha
        simpa [Con.set, Con.del, con5, e, List.map_const'] using ha
      · simp [conK, e] at ha
    | _ => simp [conK] at ha
  refine callS_wk (Refs.refl _) (HRef.trans r2 (HRef.trans r3 r4)) ?_
  rw [sm_eta]
  refine vref19_Reach_c s H fun bl hbl => ?_
  clear R R2 R3 R4 r2 r3 r4 q2 q3 q4
  have I0 : KInv s (Rb bl) ⟨fun _ => [], fun _ => []⟩ := ⟨fun p h hh => by simp at hh, fun p h hh => by simp at hh, fun _ => by simp, fun _ => ⟨by simp, by simp⟩⟩
  refine loop_down (fun m σ' h' => ∃ σ l n, σ' = [I n] ∧ l .pa = P ∧ RC h (conK s σ l) l h' ∧ KInv s (Rb bl) σ ∧ ((n = -1 ∧ m = 64 * (400 * 576 + 8 * 150) + 1) ∨ ∃ σ0, n = (szK s σ0 : Nat) ∧ KInv s (Rb bl) σ0 ∧ GrowK σ0 σ ∧ (∀ q, okP s q → Proc s (Rb bl) σ0 σ q) ∧ m = 64 * (400 * 576 + 8 * 150) - szK s σ0))
    (64 * (400 * 576 + 8 * 150) + 1) ⟨_, l, -1, rfl, eP, R5, I0, .inl ⟨rfl, rfl⟩⟩ ?_
  clear R5 I0 eP
  rintro m σ' h5 K ⟨σ, l, n, rfl, eP, R, I1, hor⟩ hK
  simp only [g_0]
  refine callS_of (size' H Sm I1 R eP ?_)
  rw [w_neq, w_brA]
  by_cases hne : n = (szK s σ : Nat)
  · simp only [hne, decide_true, Bool.not_true, Bool.false_eq_true, if_false]
    rcases hor with ⟨rfl, _⟩ | ⟨σ0, e0, I0, g0, pr, _⟩
    · omega
    · have he : szK s σ0 = szK s σ := by omega
      have hs := sz_same I0 I1 g0 he
      rw [← eP]
      refine retA_of (hQ bl σ l h5 hbl ⟨I1, fun p y hy => ?_, fun k y hy => ?_⟩ R)
      · exact g0.hd _ _ ((closed_all H hs pr hy).2 rfl)
      · exact g0.cm _ _ ((closed_all H hs pr hy).1 rfl)
  · simp only [hne, decide_false, Bool.not_false, if_true]
    refine callS_of (size' H Sm I1 R eP ?_)
    refine pass_all H Sm hbl I1 R eP fun σ2 l2 h6 e2 R2 I2 g2 p2 => ?_
    have hB := szK_le H Sm I1
    refine hK (64 * (400 * 576 + 8 * 150) - szK s σ) _ _ ?_ ⟨σ2, l2, _, rfl, e2, R2, I2, .inr ⟨σ, rfl, I1, g2, p2, rfl⟩⟩
    rcases hor with ⟨_, rfl⟩ | ⟨σ0, e0, I0, g0, _, rfl⟩
    · omega
    · have := sz_mono I0 I1 g0
      omega
end
end Am
