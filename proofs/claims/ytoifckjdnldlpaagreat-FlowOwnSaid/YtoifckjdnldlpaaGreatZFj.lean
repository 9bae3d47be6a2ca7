/- analyse: what it computes. -/
import Derived.Test.YtoifckjdnldlpaaGreatZFi
import Derived.Test.YtoifckjdnldlpaaGreatZFm
set_option linter.unusedVariables false
set_option linter.unusedSimpArgs false
namespace Am
open Go Go.Proofs.Tryz
def σ0 : St := ⟨[], [], [], [], [], [], [], false⟩
abbrev Rb (bl : List Bool) : Nat → Prop := fun f => bl.getD f false = true
structure Res (s : Sch) (bl : List Bool) (all : Bool) (σ : St) : Prop where
  ok : StOk s σ
  bg : ∀ p, p ∈ σ.bg ↔ okP s p ∧ (bl.getD p.1 false = true ∨ all = true)
  cl : ∀ k p, (k, p) ∈ σ.cl ↔ FlP s (Rb bl) true k p
  hl : ∀ p h, p ∈ σ.bg → ((p, h) ∈ σ.hl ↔ FlP s (Rb bl) false p h)
section
variable {hb h : Heap} {s : Sch} {bl : List Bool} {l : Lo} {c : Con}
theorem RC.frz2 (R : RC hb c l h) {a1 a2 b : Ad} {els1 els2 : List (List AV)} {cs : List AV} (h1 : c a1 = some (.arr 1 els1)) (h2 : c a2 = some (.arr 1 els2)) (h3 : c b = some (.arr 10 [cs])) (n12 : a1 ≠ a2) (n1 : a1 ≠ b) (n2 : a2 ≠ b)
    (e1 : g cs 2 = .os (l a1) els1.length) (e2 : g cs 3 = .os (l a2) els2.length) (hl : cs.length = 10) (z1 : ∀ i, i < els1.length → (els1.getD i []).length = 1) (z2 : ∀ i, i < els2.length → (els2.getD i []).length = 1) :
    ∃ h', HRef h h' ∧ RC hb (((c.del a1).del a2).set b (.arr 10 [(cs.set 2 (.rs 1 els1)).set 3 (.rs 1 els2)])) l h' := by
  have m12 : l a1 ≠ l a2 := fun e => n12 (R.inj _ _ _ _ h1 h2 e)
  have m1 : l a1 ≠ l b := fun e => n1 (R.inj _ _ _ _ h1 h3 e)
  have m2 : l a2 ≠ l b := fun e => n2 (R.inj _ _ _ _ h2 h3 e)
  have R1 := ((R.del h1).del (a := a2) (by simp only [Con.del, if_neg n12.symm]; exact h2)).upd (a := b) (.arr 10 [(cs.set 2 (.rs 1 els1)).set 3 (.rs 1 els2)]) (m := .arr 10 [cs]) (by simp only [Con.del, if_neg n1.symm, if_neg n2.symm]; exact h3)
  refine ⟨_, fun i n' hi => ?_, R1⟩
  obtain ⟨z, hz⟩ : ∃ z : Heap, z = ((h.del (l a1)).del (l a2)).set (l b) (.arr 10 [(cs.set 2 (.rs 1 els1)).set 3 (.rs 1 els2)]) := ⟨_, rfl⟩
  rw [← hz] at hi ⊢
  have y1 : z (l a1) = none := by rw [hz, Heap.set_ne m1, Heap.del_ne m12, Heap.del_same]
  have y2 : z (l a2) = none := by rw [hz, Heap.set_ne m2, Heap.del_same]
  by_cases e : i = l b
  · subst e
    rw [hz, Heap.set_same] at hi
    cases hi
    refine ⟨_, R.own _ _ h3, .arr rfl (fun i hi => ?_) fun i j hi hj => ?_⟩
    · have : i = 0 := by simpa using hi
      subst this; simpa using hl
    · have : i = 0 := by simpa using hi
      subst this
      show Ref h z (g cs j) (g ((cs.set 2 (.rs 1 els1)).set 3 (.rs 1 els2)) j)
      by_cases j2 : j = 2
      · subst j2
        have : g ((cs.set 2 (.rs 1 els1)).set 3 (.rs 1 els2)) 2 = .rs 1 els1 := by
          simp [g, List.getD_eq_getElem?_getD, List.getElem?_set, hl]
        rw [e1, this]
        exact .frz (R.own _ _ h1) y1 (Nat.le_refl _) rfl z1 fun i j _ _ => .refl
      by_cases j3 : j = 3
      · subst j3
        have : g ((cs.set 2 (.rs 1 els1)).set 3 (.rs 1 els2)) 3 = .rs 1 els2 := by
          simp [g, List.getD_eq_getElem?_getD, List.getElem?_set, hl]
        rw [e2, this]
        exact .frz (R.own _ _ h2) y2 (Nat.le_refl _) rfl z2 fun i j _ _ => .refl
      · have : g ((cs.set 2 (.rs 1 els1)).set 3 (.rs 1 els2)) j = g cs j := by
          have q2 : ¬ 2 = j := fun e => j2 e.symm
          have q3 : ¬ 3 = j := fun e => j3 e.symm
          simp [g, List.getD_eq_getElem?_getD, List.getElem?_set, q2, q3]
        rw [this]; exact .refl
  · rw [hz, Heap.set_ne e] at hi
    by_cases e2 : i = l a2
    · subst e2; rw [Heap.del_same] at hi; cases hi
    · rw [Heap.del_ne e2] at hi
      by_cases e1 : i = l a1
      · subst e1; rw [Heap.del_same] at hi; cases hi
      · rw [Heap.del_ne e1] at hi; exact ⟨n', hi, .refl⟩
theorem NS_sz (s : Sch) (i : Nat) (hi : i < (NS s).length) : ((NS s).getD i []).length = 1 := by
  rw [NS_get (by rwa [NS_len] at hi)]; rfl
theorem CSl_sz (s : Sch) (l : Lo) (i : Nat) (hi : i < (CSl s l).length) : ((CSl s l).getD i []).length = 1 := by
  rw [CSl_get l (by rwa [CSl_len] at hi)]; rfl
theorem k0_c (H : SOk s) (Sm : Small s) (hbl : IsR s bl) {all : Bool} (R : RC hb (con1 s bl 0 l) l h) {Q : AV → Heap → Prop}
    (hq : ∀ σ l' h', RC hb (conS s bl σ l') l' h' → Res s bl all σ → Q (.tup [.op (l' .pa) 0 0, B true]) h') :
    flow_analyse_k0 (sm s) (B all) [.rs 2 (syCs s.syms), .rs 5 (fnCs s.funs)] (.op (l .pa) 0 0) h Q := by
  have hfew := H.few
  have hpos := H.pos
  unfold flow_analyse_k0
  simp only [g_0, g_1, w_len_rs, fnCs_len]
  refine loop_upW s.funs.length (fun f σ' h' => σ' = [I f] ∧ ∃ l', l' .pa = l .pa ∧ RC hb (con1 s bl f l') l' h') (Wk.refl ⟨rfl, l, rfl, R⟩) (fun k σ' h' ⟨e, _⟩ => by rw [e]; rfl) ?_
  clear R
  rintro f σ' h' K hf ⟨rfl, l', el, R⟩ hK
  by_cases hlt : f < s.funs.length
  · have hlt' : (f : Int) < s.funs.length := by omega
    simp only [g_0, w_lss, hlt', decide_true, w_brA, if_true]
    rw [← el]
    exact round1 H R hlt fun l2 h2 h3 e r R2 => hK hlt _ _ (Wk.none r ⟨rfl, l2, e.trans el, R2⟩)
  have hfe : f = s.funs.length := by omega
  subst hfe
  simp only [g_0, w_lss, Int.lt_irrefl, decide_false, w_brA, Bool.false_eq_true, if_false]
  have hf0 : ¬ s.funs.length = 0 := by omega
  obtain ⟨h2, r1, R1⟩ := R.frz2 (a1 := .nb) (a2 := .cb) (b := .pa) (els1 := NS s) (els2 := CSl s l') (cs := pa1 s bl (.os (l' .nb) s.funs.length) (.os (l' .cb) s.funs.length) l')
    (by simp only [con1, hf0, if_false]; rw [List.take_of_length_le (by rw [NS_len]; omega)]) (by simp only [con1, hf0, if_false]; rw [List.take_of_length_le (by rw [CSl_len]; omega)]) (by simp only [con1, hf0, if_false]) (by simp) (by simp) (by simp) (by rw [NS_len]; rfl) (by rw [CSl_len]; rfl) rfl (NS_sz s) (CSl_sz s l')
  have R2 : RC hb (conS s bl σ0 l') l' h2 := R1.weak fun a n ha => by
    cases a with
    | cm k =>
      by_cases e : okK s k
      · have : okK s k ∧ k.1 < s.funs.length := ⟨e, e.1⟩
        simp only [conS, e, if_true] at ha
        simpa [Con.set, Con.del, con1, this, σ0, pick, mpN] using ha
      · simp [conS, e] at ha
    | pa =>
      have : paC s bl σ0 l' = (((pa1 s bl (.os (l' .nb) s.funs.length) (.os (l' .cb) s.funs.length) l').set 2 (.rs 1 (NS s))).set 3 (.rs 1 (CSl s l'))) := rfl
      simp only [conS, this] at ha
      simpa [Con.set] using ha
    | mh => simpa [Con.set, Con.del, con1, conS, σ0, mpN] using ha
    | mw => simpa [Con.set, Con.del, con1, conS, σ0, mpN] using ha
    | mi => simpa [Con.set, Con.del, con1, conS, σ0, mpN] using ha
    | _ => simp [conS, σ0] at ha
  clear R R1 hK
  have hR : ∀ f, bl.getD f false = true ↔ Rb bl f := fun _ => Iff.rfl
  have hlen := hbl.1
  generalize eP : l .pa = P at *
  let sel : Nat → Prop := fun f => bl.getD f false = true ∨ all = true
  let G : St → (Pc → Prop) → Lo → Heap → Prop := fun σ B l' h' => l' .pa = P ∧ RC hb (conS s bl σ l') l' h' ∧ StOk s σ ∧ Inv s (Rb bl) P σ No No ∧ σ.hl = [] ∧ σ.cl = [] ∧ (∀ p, p ∈ σ.bg ↔ okP s p ∧ sel p.1 ∧ B p) ∧ σ.wk.length ≤ σ.bg.length
  have V0 : StOk s σ0 := ⟨by simp [σ0], by simp [σ0], by simp [σ0], by simp [σ0], by simp [σ0], fun k => by simp [σ0, wtOf], fun k => by simp [σ0, pick2], fun e he => by simp [σ0] at he, fun p hp => by simp [σ0] at hp, fun _ => rfl, fun x hx => by simp [σ0] at hx, fun x hx => by simp [σ0] at hx⟩
  have I0 : Inv s (Rb bl) P σ0 No No := ⟨fun p h hh => by simp [σ0] at hh, fun p h hh => by simp [σ0] at hh, fun x hx => by simp [σ0] at hx, fun p hp => by simp [σ0] at hp, fun p hp => by simp [σ0] at hp, fun p h hh => by simp [σ0] at hh⟩
  have beg : ∀ {σ : St} {B : Pc → Prop} {l' : Lo} {h' : Heap} {p : Pc} {Q : AV → Heap → Prop}, G σ B l' h' → okP s p → sel p.1 → ¬ B p → (∀ σ' l2 h2, G σ' (fun q => B q ∨ q = p) l2 h2 → Q (.tup []) h2) → ACalls prog n_flow_analysis_begin [.op P 0 0, kC p] h' Q := fun {σ B l' h' p Q} hG hp hs hB hk => by
    obtain ⟨g1, g2, g3, g4, g5, g6, g7, g8⟩ := hG
    have hb150 := bg_le Sm g3
    have hpn : p ∉ σ.bg := fun h => hB ((g7 p).1 h).2.2
    rw [← g1]
    refine begin_c g3 g2 hp hpn (fun h0 => (head_var H hp (i := (ndS s p).1.lab.2) (Prod.ext h0 rfl)).1) (by omega) (by omega) fun l2 h2 e1 e2 => ?_
    refine hk (σ.beg s P p) l2 h2 ⟨e1.trans g1, by rw [g1] at e2; exact e2, g3.beg P hp hpn, g4.beg H g3 g5 g6 hp, g5, g6, fun q => ?_, ?_⟩
    · show q ∈ σ.bg ++ [p] ↔ _
      rw [List.mem_append, g7, List.mem_singleton]
      constructor
      · rintro (⟨a1, a2, a3⟩ | rfl)
        · exact ⟨a1, a2, .inl a3⟩
        · exact ⟨hp, hs, .inr rfl⟩
      · rintro ⟨a1, a2, a3 | rfl⟩
        · exact .inl ⟨a1, a2, a3⟩
        · exact .inr rfl
    · show (σ.wk ++ _).length ≤ (σ.bg ++ [p]).length
      rw [List.length_append, List.length_append, List.length_cons, List.length_nil]
      split <;> simp <;> omega
  have GB : ∀ {σ : St} {B B' : Pc → Prop} {l' : Lo} {h' : Heap}, G σ B l' h' → (∀ p, okP s p → sel p.1 → (B p ↔ B' p)) → G σ B' l' h' := fun {σ B B' l' h'} hG hBB => by
    obtain ⟨g1, g2, g3, g4, g5, g6, g7, g8⟩ := hG
    exact ⟨g1, g2, g3, g4, g5, g6, fun p => (g7 p).trans ⟨fun ⟨a, b, c⟩ => ⟨a, b, (hBB p a b).1 c⟩, fun ⟨a, b, c⟩ => ⟨a, b, (hBB p a b).2 c⟩⟩, g8⟩
  refine loop_upW s.funs.length (fun f σ' h' => σ' = [I f] ∧ ∃ l' σ, G σ (fun p => p.1 < f) l' h') (Wk.none r1 ⟨rfl, l', σ0, el, R2, V0, I0, rfl, rfl, fun p => by simp [σ0], by simp [σ0]⟩) (fun k σ' h' ⟨e, _⟩ => by rw [e]; rfl) ?_
  clear R2 V0 I0 el r1
  rintro f σ' h' K hf ⟨rfl, l', σ, hG⟩ hK
  simp only [g_0]
  by_cases hlt : f < s.funs.length
  · have hlt' : (f : Int) < s.funs.length := by omega
    simp only [w_lss, hlt', decide_true, w_brA, if_true]
    have hrd : ∀ {σ : St} {B : Pc → Prop} {l' : Lo} {h' : Heap}, G σ B l' h' → h' P = some (.arr 10 [paC s bl σ l']) := fun {σ B l' h'} hG => by
      rw [← hG.1]; exact hG.2.1.own .pa _ rfl
    refine rdP (x := .rs 1 (NS s)) (hrd hG) (by omega) rfl ?_
    refine ix_rs (by rw [NS_len]; exact hlt) (NS_get hlt) ?_
    rw [w_loadV_ro, w_len_rs, ndCs_len, ndF_len]
    have hbody := H.body (getD_mem hlt)
    refine loop_upW (s.funs.getD f default).body.nodes (fun i σ' h' => σ' = [I i] ∧ ∃ l' σ, G σ (fun p => p.1 < f ∨ (p.1 = f ∧ p.2 < i)) l' h') (Wk.refl ⟨rfl, l', σ, GB hG fun p _ _ => by simp⟩) (fun k σ' h' ⟨e, _⟩ => by rw [e]; rfl) ?_
    clear hG
    rintro i σ' h' K' hi ⟨rfl, l', σ, hG⟩ hK'
    simp only [g_0]
    by_cases hlt2 : i < (s.funs.getD f default).body.nodes
    · have hlt2' : (i : Int) < ((s.funs.getD f default).body.nodes : Nat) := by omega
      simp only [w_lss, hlt2', decide_true, w_brA, if_true]
      have hwk : IntKind.i64.wrap ((i : Int) + 1) = ((i + 1 : Nat) : Int) := wrap_k (by omega)
      refine rdP (x := .rs 1 (bCs bl)) (hrd hG) (by omega) rfl ?_
      refine ix_rs (by rw [bCs_len, hlen]; exact hlt) (bCs_get (by rw [hlen]; exact hlt)) ?_
      rw [w_loadV_ro, w_brA]
      have doit : sel f → callS prog n_flow_analysis_begin [.op P 0 0, .agg [I (f : Nat), I (i : Nat)]] h' fun r_79 h_80 => binA .add (I (i : Nat)) (I 1) fun x_81 => K' [x_81] h_80 := fun hs => by
        refine callS_of (beg hG (p := (f, i)) ⟨hlt, hlt2⟩ hs (by simp) fun σ2 l2 h2 hG2 => ?_)
        rw [w_add, hwk]
        refine hK' hlt2 _ _ (Wk.refl ⟨rfl, l2, σ2, GB hG2 fun p _ _ => ⟨fun h => ?_, fun h => ?_⟩⟩)
        · rcases h with (h | h) | rfl
          · exact .inl h
          · exact .inr ⟨h.1, by omega⟩
          · exact .inr ⟨rfl, by simp⟩
        · rcases h with h | ⟨h1, h2⟩
          · exact .inl (.inl h)
          · by_cases e : p.2 = i
            · exact .inr (Prod.ext h1 e)
            · exact .inl (.inr ⟨h1, by omega⟩)
      have skip : ¬ sel f → K' [I ((i + 1 : Nat) : Int)] h' := fun hs => hK' hlt2 _ _ (Wk.refl ⟨rfl, l', σ, GB hG fun p _ hp => by
        have : p.1 ≠ f := fun e => hs (e ▸ hp)
        simp [this]⟩)
      cases hbf : bl.getD f false with
      | true =>
        simp only [if_true]
        rw [w_one_v, w_one_v]
        exact doit (.inl hbf)
      | false =>
        simp only [Bool.false_eq_true, if_false]
        cases all with
        | true =>
          simp only [w_brA, if_true]
          rw [w_one_v, w_one_v]
          exact doit (.inr rfl)
        | false =>
          simp only [w_brA, Bool.false_eq_true, if_false]
          rw [w_add, hwk]
          exact skip fun h => h.elim (fun h => by rw [hbf] at h; cases h) fun h => by cases h
    · have hie : i = (s.funs.getD f default).body.nodes := by omega
      subst hie
      simp only [w_lss, Int.lt_irrefl, decide_false, w_brA, Bool.false_eq_true, if_false]
      rw [w_add, wrap_k (k := f) (by omega)]
      refine hK hlt _ _ (Wk.refl ⟨rfl, l', σ, GB hG fun p hp _ => ⟨fun h => by omega, fun h => ?_⟩⟩)
      by_cases e : p.1 < f
      · exact .inl e
      · have e2 : p.1 = f := by omega
        exact .inr ⟨e2, by have := hp.2; rwa [e2] at this⟩
  have hfe : f = s.funs.length := by omega
  subst hfe
  simp only [w_lss, Int.lt_irrefl, decide_false, w_brA, Bool.false_eq_true, if_false]
  obtain ⟨g1, g2, g3, g4, g5, g6, g7, g8⟩ := hG
  have hb150 := bg_le Sm g3
  have hsel : ∀ p, p ∈ σ.bg ↔ okP s p ∧ (bl.getD p.1 false = true ∨ all = true) := fun p => (g7 p).trans ⟨fun ⟨a, b, _⟩ => ⟨a, b⟩, fun ⟨a, b⟩ => ⟨a, b, a.1⟩⟩
  refine loop_down (fun m σ' h' => σ' = [] ∧ ∃ l' σ, m = meas σ ∧ m ≤ 4000000000000 ∧ l' .pa = P ∧ RC hb (conS s bl σ l') l' h' ∧ StOk s σ ∧ Inv s (Rb bl) P σ No No ∧ (∀ p, p ∈ σ.bg ↔ okP s p ∧ (bl.getD p.1 false = true ∨ all = true))) (meas σ) ⟨rfl, l', σ, rfl, by simp only [meas, g5, List.length_nil]; omega, g1, g2, g3, g4, hsel⟩ ?_
  clear g1 g2 g3 g4 g5 g6 g7 g8 hsel hb150 hK
  rintro m σ' h' K ⟨rfl, l', σ, rfl, hm, hlp, R, V, Iv, hbg⟩ hK
  have hwle : σ.wk.length ≤ 4000000000000 := by unfold meas at hm; omega
  have hcl := Iv.cl_le H Sm V
  have xa : h' P = some (.arr 10 [paC s bl σ l']) := by rw [← hlp]; exact R.own .pa _ rfl
  have hcl' : ((σ.cl.length : Nat) : Int) ≤ 200000 := by omega
  refine rdP (x := wV σ l') xa (by omega) rfl ?_
  have hlw : ∀ {K : AV → Prop}, K (I (σ.wk.length : Nat)) → lenA (wV σ l') K := fun {K} hk => by
    unfold wV
    cases hw : σ.wn with
    | true => exact hk
    | false => have := V.wn hw; rw [this] at hk; exact hk
  refine hlw ?_
  by_cases hne : σ.wk = []
  · simp only [hne, List.length_nil, w_gtr, w_brA]
    simp only [show ¬ ((0 : Int) < ((0 : Nat) : Int)) by omega, decide_false, Bool.false_eq_true, if_false]
    refine rdP (x := I (σ.cl.length : Nat)) xa (by omega) rfl ?_
    rw [w_leq]
    simp only [hcl', decide_true]
    refine retA_of ?_
    rw [← hlp]
    refine hq σ l' h' R ⟨V, hbg, fun k p => ⟨Iv.sc k p, fun h => (Iv.done H hne (fun q h1 h2 => (hbg q).2 ⟨h1, .inl h2⟩) h).1 rfl⟩, fun p h hp => ⟨Iv.sh p h, fun h => (Iv.done H hne (fun q h1 h2 => (hbg q).2 ⟨h1, .inl h2⟩) h).2 rfl hp⟩⟩
  · have hpos : 0 < σ.wk.length := List.length_pos_iff.2 hne
    have hpos' : (0 : Int) < (σ.wk.length : Nat) := by omega
    simp only [w_gtr, w_brA, hpos', decide_true, if_true]
    refine rdP (x := I (σ.cl.length : Nat)) xa (by omega) rfl ?_
    rw [w_leq, w_brA]
    simp only [hcl', decide_true, if_true]
    have hwn : σ.wn = true := by
      cases hw : σ.wn with
      | true => rfl
      | false => exact absurd (V.wn hw) hne
    have ewV : wV σ l' = .os (l' .wk) σ.wk.length := by simp [wV, hwn]
    rw [ewV] at hlw
    refine rdP (x := .os (l' .wk) σ.wk.length) xa (by omega) (by rw [← ewV]; rfl) ?_
    refine rdP (x := .os (l' .wk) σ.wk.length) xa (by omega) (by rw [← ewV]; rfl) ?_
    have esub : IntKind.i64.wrap (((σ.wk.length : Nat) : Int) - 1) = ((σ.wk.length - 1 : Nat) : Int) := by rw [wrap_i64 (by omega) (by omega)]; omega
    rw [w_len_os, w_sub, esub]
    have xw : h' (l' .wk) = some (.arr 1 (ones (σ.wk ++ σ.jk))) := R.own .wk _ (by simp [conS, hwn])
    rw [w_idx_os xw]
    refine ⟨rfl, by omega, by omega, by simp, ?_⟩
    obtain ⟨ws, x, ews⟩ : ∃ ws x, σ.wk = ws ++ [x] := ⟨_, _, (List.dropLast_concat_getLast hne).symm⟩
    have elw : σ.wk.length = ws.length + 1 := by rw [ews]; simp
    have egd : (ones (σ.wk ++ σ.jk)).getD (σ.wk.length - 1) [] = [x] := by
      rw [elw, ews]
      simp [ones, List.getD_eq_getElem?_getD]
    rw [Int.toNat_natCast, w_loadV_op xw, egd]
    refine ⟨by simp; omega, by omega, ?_⟩
    rw [g_0]
    refine rdP (x := .os (l' .wk) σ.wk.length) xa (by omega) (by rw [← ewV]; rfl) ?_
    refine rdP (x := .os (l' .wk) σ.wk.length) xa (by omega) (by rw [← ewV]; rfl) ?_
    rw [w_len_os, w_sub, esub]
    show 0 < 1 ∧ (0 : Int) ≤ _ ∧ _ ∧ _
    refine ⟨by omega, by omega, by omega, ?_⟩
    dsimp only
    rw [w_nil_op, w_fld_op, w_one_os, Nat.zero_add, Int.toNat_natCast]
    refine st_at xa (by omega) ?_
    have Ru := R.upd (a := .pa) (.arr 10 [(paC s bl σ l').set 8 (.os (l' .wk) (σ.wk.length - 1))]) (m := .arr 10 [paC s bl σ l']) rfl
    rw [hlp] at Ru
    generalize h'.set P (.arr 10 [(paC s bl σ l').set 8 (.os (l' .wk) (σ.wk.length - 1))]) = h2 at *
    let σp : St := { σ with wk := ws, jk := x :: σ.jk }
    have Rp : RC hb (conS s bl σp l') l' h2 := Ru.weak fun a n ha => by
      cases a with
      | pa =>
        have : paC s bl σp l' = (paC s bl σ l').set 8 (.os (l' .wk) (σ.wk.length - 1)) := by
          simp [paC, wV, σp, hwn, elw]
        simp only [conS, this] at ha
        simpa [Con.set] using ha
      | wk =>
        have : conS s bl σp l' .wk = conS s bl σ l' .wk := by simp [conS, σp, ews]
        rw [this] at ha
        simpa [Con.set] using ha
      | _ => exact ha
    have Vp : StOk s σp := ⟨V.bgn, V.hln, V.cln, V.kwn, V.kin, V.kw, V.ki, V.hlb, V.bgo, fun h => (by rw [show σp.wn = true from hwn] at h; cases h), fun y hy => V.wf y (by rw [ews]; exact List.mem_append.2 (.inl hy)), fun y hy => by
      rcases List.mem_cons.1 hy with rfl | hy
      · exact V.wf y (by rw [ews]; simp)
      · exact V.jf y hy⟩
    have Ip : Inv s (Rb bl) P σp (semW s P x) No := Iv.pop ews (x :: σ.jk)
    obtain ⟨q, hd, hsem, hqb, hqF⟩ := Iv.sw x (by rw [ews]; simp)
    have hE : ∀ q' h', semW s P x q' h' → q' = q ∧ h' = hd := fun q' h' h => by
      obtain ⟨e1, e2⟩ := semW_inj h hsem
      exact ⟨e1, e2⟩
    have hqo := V.bgo q hqb
    obtain ⟨_, t2, t3, _⟩ := (hqF.typed H).1 rfl
    have t4 := ar_le H t2
    have hna := nA_le H hqo
    have hp2 : q.2 ≤ 1000000 := by have := hqo.2; have := H.body (getD_mem hqo.1); omega
    have hwp : σp.wk.length ≤ 5000000000000 := by show ws.length ≤ _; omega
    have emp : meas σp < meas σ := by
      simp only [meas, elw]
      show (86400 - σ.hl.length) * 34636801 + ws.length < (86400 - σ.hl.length) * 34636801 + (ws.length + 1)
      omega
    have addc : ACalls prog n_flow_analysis_add [.op P 0 0, kC q, kC hd] h2 fun _ h3 => K [] h3 := by
      rw [← hlp]
      refine add_c Vp Rp hqb t2 (by omega) (by omega) (by omega) hp2 hlen (fun p' h1 h2 => (hbg p').2 ⟨h1, .inl h2⟩) (fun j hj => ((tyOk H hqo).arg j hj).1) (fun hn L σ1 hc hj hb => ?_) fun σ2 l2 h3 hA e1 R3 => ?_
      · rw [hlp] at hc
        exact (add_sizes H Sm hR hqo (Vp.addH hn hqb) (Ip.addH hE hqF) hqF hwp hc hj hb).1
      · rw [hlp] at hA
        obtain ⟨I2, V2⟩ := Ip.added H Vp hE hqF hR hA (fun hn => Vp.addH hn hqb) hqb
        have hme := hA.meas H Sm hR Vp Ip hE hqb hqF hwp
        have hb2 : σ2.bg = σ.bg := by
          rcases hA with ⟨_, rfl⟩ | ⟨_, σ1, hc, rfl⟩
          · rfl
          · exact hc.bg.1
        exact hK (meas σ2) [] h3 (by omega) ⟨rfl, l2, σ2, rfl, by omega, e1.trans hlp, R3, V2, I2, fun p => by rw [hb2]; exact hbg p⟩
    have hdn : hd.2 ≤ 8 := by omega
    rcases hsem with ⟨gg, rfl, hl, rfl⟩ | ⟨h', n, rfl, rfl⟩ | ⟨h', n, rfl, rfl⟩
    · rw [clB, w_callV]
      exact callS_of (run_b (congrArg Prod.snd hl) addc)
    · rw [clC, w_callV]
      exact callS_of (run_a addc)
    · rw [clC, w_callV]
      have hn8 : h'.2 + n ≤ 8 := hdn
      exact callS_of (run_c (hd := h') (n := n) (by omega) addc)
def l00 : Lo := fun _ => 0
theorem leaf (H : SOk s) (Sm : Small s) (hbl : IsR s bl) {all : Bool} {h : Heap} {Q : AV → Heap → Prop} (x1 x2 x3 : Ad) (n12 : x1 ≠ x2) (n13 : x1 ≠ x3) (n23 : x2 ≠ x3) (c1 : x1 = .mh ∨ x1 = .mw ∨ x1 = .mi) (c2 : x2 = .mh ∨ x2 = .mw ∨ x2 = .mi) (c3 : x3 = .mh ∨ x3 = .mw ∨ x3 = .mi) {a b d P : Nat} (ha : h a = none) (hb : (h.set a (.map [])) b = none) (hd : ((h.set a (.map [])).set b (.map [])) d = none) {cs : List AV} (hP : (((h.set a (.map [])).set b (.map [])).set d (.map [])) P = none)
    (ecs : ∀ l : Lo, cs = pa1 s bl .e0 .e0 (((l.set x1 a).set x2 b).set x3 d))
    (hq : ∀ bl σ l h', IsR s bl → RC h (conS s bl σ l) l h' → Res s bl all σ → Q (.tup [.op (l .pa) 0 0, B true]) h') :
    flow_analyse_k0 (sm s) (B all) [.rs 2 (syCs s.syms), .rs 5 (fnCs s.funs)] (.op P 0 0) ((((h.set a (.map [])).set b (.map [])).set d (.map [])).set P (.arr 10 [cs])) Q := by
  have R := ((((RC.start (l := l00)).mk' x1 (.map []) ha).mk' x2 (.map []) hb).mk' x3 (.map []) hd).mk' .pa (.arr 10 [cs]) hP
  have key := k0_c H Sm hbl (all := all) (Q := Q) (R.weak (c' := con1 s bl 0 ((((l00.set x1 a).set x2 b).set x3 d).set .pa P)) fun ad n hn => ?_) fun σ l' h' R1 r => hq bl σ l' h' hbl R1 r
  · rw [Lo.set_same] at key; exact key
  · have m : ad = .mh ∨ ad = .mw ∨ ad = .mi → ad = x1 ∨ ad = x2 ∨ ad = x3 := fun h => by
      rcases h with rfl | rfl | rfl <;> rcases c1 with rfl | rfl | rfl <;> rcases c2 with rfl | rfl | rfl <;> rcases c3 with rfl | rfl | rfl <;> simp at *
    cases ad with
    | pa =>
      have e : pa1 s bl .e0 .e0 ((((l00.set x1 a).set x2 b).set x3 d).set .pa P) = cs := by
        rw [ecs l00]; simp [pa1, Lo.set]
      simp only [con1, if_true, e] at hn
      simpa [Con.set] using hn
    | mh =>
      have := m (.inl rfl)
      simp only [con1] at hn
      rcases this with e | e | e <;> simp [Con.set, ← e, hn]
      all_goals simp_all
    | mw =>
      have := m (.inr (.inl rfl))
      simp only [con1] at hn
      rcases this with e | e | e <;> simp [Con.set, ← e, hn]
      all_goals simp_all
    | mi =>
      have := m (.inr (.inr rfl))
      simp only [con1] at hn
      rcases this with e | e | e <;> simp [Con.set, ← e, hn]
      all_goals simp_all
    | _ => simp [con1] at hn
theorem analyse_c (H : SOk s) (Sm : Small s) (all : Bool) {h : Heap} {Q : AV → Heap → Prop} (hq : ∀ bl σ l h', IsR s bl → RC h (conS s bl σ l) l h' → Res s bl all σ → Q (.tup [.op (l .pa) 0 0, B true]) h') : ACalls prog n_flow_analyse [sm s, B all] h Q := by
  refine flow_analyse_call ?_
  unfold flow_analyse sm
  simp only [w_agg, List.length_cons, List.length_nil, true_and, g_0, g_1, and_true]
  refine ⟨?_, ?_, ?_, ?_⟩
  · skip
    intro ah hh
    refine ⟨?_, ?_, ?_⟩
    · skip
      intro aw hw
      refine ⟨?_, ?_⟩
      · skip
        intro ai hi
        refine callS_of (flow_reached_c s H fun bl hbl => ?_)
        rw [w_one_mp, w_one_mp, w_one_mp, w_one_rs]
        intro P hP
        exact leaf H Sm hbl .mh .mw .mi (by simp) (by simp) (by simp) (by simp) (by simp) (by simp) hh hw hi hP (fun _ => rfl) hq
      · skip
        refine callS_of (flow_reached_c s H fun bl hbl => ?_)
        intro ai hi
        rw [w_one_mp, w_one_mp, w_one_mp, w_one_rs]
        intro P hP
        exact leaf H Sm hbl .mh .mw .mi (by simp) (by simp) (by simp) (by simp) (by simp) (by simp) hh hw hi hP (fun _ => rfl) hq
    · skip
      intro ai hi
      refine ⟨?_, ?_⟩
      · skip
        intro aw hw
        refine callS_of (flow_reached_c s H fun bl hbl => ?_)
        rw [w_one_mp, w_one_mp, w_one_mp, w_one_rs]
        intro P hP
        exact leaf H Sm hbl .mh .mi .mw (by simp) (by simp) (by simp) (by simp) (by simp) (by simp) hh hi hw hP (fun _ => rfl) hq
      · skip
        refine callS_of (flow_reached_c s H fun bl hbl => ?_)
        intro aw hw
        rw [w_one_mp, w_one_mp, w_one_mp, w_one_rs]
        intro P hP
        exact leaf H Sm hbl .mh .mi .mw (by simp) (by simp) (by simp) (by simp) (by simp) (by simp) hh hi hw hP (fun _ => rfl) hq
    · skip
      refine callS_of (flow_reached_c s H fun bl hbl => ?_)
      refine ⟨?_, ?_⟩
      · skip
        intro aw hw
        intro ai hi
        rw [w_one_mp, w_one_mp, w_one_mp, w_one_rs]
        intro P hP
        exact leaf H Sm hbl .mh .mw .mi (by simp) (by simp) (by simp) (by simp) (by simp) (by simp) hh hw hi hP (fun _ => rfl) hq
      · skip
        intro ai hi
        intro aw hw
        rw [w_one_mp, w_one_mp, w_one_mp, w_one_rs]
        intro P hP
        exact leaf H Sm hbl .mh .mi .mw (by simp) (by simp) (by simp) (by simp) (by simp) (by simp) hh hi hw hP (fun _ => rfl) hq
  · skip
    intro aw hw
    refine ⟨?_, ?_, ?_⟩
    · skip
      intro ah hh
      refine ⟨?_, ?_⟩
      · skip
        intro ai hi
        refine callS_of (flow_reached_c s H fun bl hbl => ?_)
        rw [w_one_mp, w_one_mp, w_one_mp, w_one_rs]
        intro P hP
        exact leaf H Sm hbl .mw .mh .mi (by simp) (by simp) (by simp) (by simp) (by simp) (by simp) hw hh hi hP (fun _ => rfl) hq
      · skip
        refine callS_of (flow_reached_c s H fun bl hbl => ?_)
        intro ai hi
        rw [w_one_mp, w_one_mp, w_one_mp, w_one_rs]
        intro P hP
        exact leaf H Sm hbl .mw .mh .mi (by simp) (by simp) (by simp) (by simp) (by simp) (by simp) hw hh hi hP (fun _ => rfl) hq
    · skip
      intro ai hi
      refine ⟨?_, ?_⟩
      · skip
        intro ah hh
        refine callS_of (flow_reached_c s H fun bl hbl => ?_)
        rw [w_one_mp, w_one_mp, w_one_mp, w_one_rs]
        intro P hP
        exact leaf H Sm hbl .mw .mi .mh (by simp) (by simp) (by simp) (by simp) (by simp) (by simp) hw hi hh hP (fun _ => rfl) hq
      · skip
        refine callS_of (flow_reached_c s H fun bl hbl => ?_)
        intro ah hh
        rw [w_one_mp, w_one_mp, w_one_mp, w_one_rs]
        intro P hP
        exact leaf H Sm hbl .mw .mi .mh (by simp) (by simp) (by simp) (by simp) (by simp) (by simp) hw hi hh hP (fun _ => rfl) hq
    · skip
      refine callS_of (flow_reached_c s H fun bl hbl => ?_)
      refine ⟨?_, ?_⟩
      · skip
        intro ah hh
        intro ai hi
        rw [w_one_mp, w_one_mp, w_one_mp, w_one_rs]
        intro P hP
        exact leaf H Sm hbl .mw .mh .mi (by simp) (by simp) (by simp) (by simp) (by simp) (by simp) hw hh hi hP (fun _ => rfl) hq
      · skip
        intro ai hi
        intro ah hh
        rw [w_one_mp, w_one_mp, w_one_mp, w_one_rs]
        intro P hP
        exact leaf H Sm hbl .mw .mi .mh (by simp) (by simp) (by simp) (by simp) (by simp) (by simp) hw hi hh hP (fun _ => rfl) hq
  · skip
    intro ai hi
    refine ⟨?_, ?_, ?_⟩
    · skip
      intro ah hh
      refine ⟨?_, ?_⟩
      · skip
        intro aw hw
        refine callS_of (flow_reached_c s H fun bl hbl => ?_)
        rw [w_one_mp, w_one_mp, w_one_mp, w_one_rs]
        intro P hP
        exact leaf H Sm hbl .mi .mh .mw (by simp) (by simp) (by simp) (by simp) (by simp) (by simp) hi hh hw hP (fun _ => rfl) hq
      · skip
        refine callS_of (flow_reached_c s H fun bl hbl => ?_)
        intro aw hw
        rw [w_one_mp, w_one_mp, w_one_mp, w_one_rs]
        intro P hP
        exact leaf H Sm hbl .mi .mh .mw (by simp) (by simp) (by simp) (by simp) (by simp) (by simp) hi hh hw hP (fun _ => rfl) hq
    · skip
      intro aw hw
      refine ⟨?_, ?_⟩
      · skip
        intro ah hh
        refine callS_of (flow_reached_c s H fun bl hbl => ?_)
        rw [w_one_mp, w_one_mp, w_one_mp, w_one_rs]
        intro P hP
        exact leaf H Sm hbl .mi .mw .mh (by simp) (by simp) (by simp) (by simp) (by simp) (by simp) hi hw hh hP (fun _ => rfl) hq
      · skip
        refine callS_of (flow_reached_c s H fun bl hbl => ?_)
        intro ah hh
        rw [w_one_mp, w_one_mp, w_one_mp, w_one_rs]
        intro P hP
        exact leaf H Sm hbl .mi .mw .mh (by simp) (by simp) (by simp) (by simp) (by simp) (by simp) hi hw hh hP (fun _ => rfl) hq
    · skip
      refine callS_of (flow_reached_c s H fun bl hbl => ?_)
      refine ⟨?_, ?_⟩
      · skip
        intro ah hh
        intro aw hw
        rw [w_one_mp, w_one_mp, w_one_mp, w_one_rs]
        intro P hP
        exact leaf H Sm hbl .mi .mh .mw (by simp) (by simp) (by simp) (by simp) (by simp) (by simp) hi hh hw hP (fun _ => rfl) hq
      · skip
        intro aw hw
        intro ah hh
        rw [w_one_mp, w_one_mp, w_one_mp, w_one_rs]
        intro P hP
        exact leaf H Sm hbl .mi .mw .mh (by simp) (by simp) (by simp) (by simp) (by simp) (by simp) hi hw hh hP (fun _ => rfl) hq
  · skip
    refine callS_of (flow_reached_c s H fun bl hbl => ?_)
    refine ⟨?_, ?_, ?_⟩
    · skip
      intro ah hh
      refine ⟨?_, ?_⟩
      · skip
        intro aw hw
        intro ai hi
        rw [w_one_mp, w_one_mp, w_one_mp, w_one_rs]
        intro P hP
        exact leaf H Sm hbl .mh .mw .mi (by simp) (by simp) (by simp) (by simp) (by simp) (by simp) hh hw hi hP (fun _ => rfl) hq
      · skip
        intro ai hi
        intro aw hw
        rw [w_one_mp, w_one_mp, w_one_mp, w_one_rs]
        intro P hP
        exact leaf H Sm hbl .mh .mi .mw (by simp) (by simp) (by simp) (by simp) (by simp) (by simp) hh hi hw hP (fun _ => rfl) hq
    · skip
      intro aw hw
      refine ⟨?_, ?_⟩
      · skip
        intro ah hh
        intro ai hi
        rw [w_one_mp, w_one_mp, w_one_mp, w_one_rs]
        intro P hP
        exact leaf H Sm hbl .mw .mh .mi (by simp) (by simp) (by simp) (by simp) (by simp) (by simp) hw hh hi hP (fun _ => rfl) hq
      · skip
        intro ai hi
        intro ah hh
        rw [w_one_mp, w_one_mp, w_one_mp, w_one_rs]
        intro P hP
        exact leaf H Sm hbl .mw .mi .mh (by simp) (by simp) (by simp) (by simp) (by simp) (by simp) hw hi hh hP (fun _ => rfl) hq
    · skip
      intro ai hi
      refine ⟨?_, ?_⟩
      · skip
        intro ah hh
        intro aw hw
        rw [w_one_mp, w_one_mp, w_one_mp, w_one_rs]
        intro P hP
        exact leaf H Sm hbl .mi .mh .mw (by simp) (by simp) (by simp) (by simp) (by simp) (by simp) hi hh hw hP (fun _ => rfl) hq
      · skip
        intro aw hw
        intro ah hh
        rw [w_one_mp, w_one_mp, w_one_mp, w_one_rs]
        intro P hP
        exact leaf H Sm hbl .mi .mw .mh (by simp) (by simp) (by simp) (by simp) (by simp) (by simp) hi hw hh hP (fun _ => rfl) hq
end
end Am
