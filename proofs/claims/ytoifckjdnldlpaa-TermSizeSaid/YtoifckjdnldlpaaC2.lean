/- The abstract machine is sound for code whose drawn regions are. -/
import Derived.Test.YtoifckjdnldlpaaC1
set_option linter.unusedVariables false
set_option linter.unusedSimpArgs false
namespace Am
open Go
section
variable {P : Program} {cf : Cfg} {fz : Fz} {b : Base} {env : Env} {loc : Loc} {h : Heap} {a : Act} {w : World} {C : Cx} {β : Nat → Option Nat} {k : K} {o : Oper}
def Post (b : Base) (fz : Fz) (env : Env) (loc : Loc) (Q : KE) : Exit → Act → World → Prop
  | .normal, a, w => Next b fz env loc (Q .normal) a w
  | .exit i, a, w => Next b fz env loc (Q (.exit i)) a w
  | .ret, a, w => Next b fz env loc (Q .ret) a w
  | _, _, _ => False
theorem Post.kept {Q : KE} {env1 : Env} {loc1 : Loc} (hk : Kept fz env env1 loc loc1) {e : Exit} {a : Act} {w : World} (hp : Post b fz env1 loc1 Q e a w) : Post b fz env loc Q e a w := by
  cases e with
  | normal => exact Next.kept hk hp
  | exit i => exact Next.kept hk hp
  | ret => exact Next.kept hk hp
  | goto l => exact hp.elim
  | panic c => exact hp.elim
  | outgrown => exact hp.elim
/-- A drawn region whose orders all come to what the machine tells. -/
def DrawnOk (P : Program) (cf : Cfg) (id : Nat) (ops : Array Oper) : Prop :=
  ∀ {fz : Fz} {b : Base} {env : Env} {loc : Loc} {h : Heap} {a : Act} {w : World} {C : Cx} {β : Nat → Option Nat} {k : K} {Q : Exit → Act → World → Prop} {ord : List Nat},
    annO cf.draws id = some ord → SR b env loc h a w C β → FzOk fz env → awpOps P cf ⟨fz.t, fz.l, fz.a, true, cf.gds⟩ ops (pickOps ops.toList ord) k env loc h →
    (∀ a w, Next b fz env loc k a w → Q .normal a w) → wpAny P .any ops Q ops.size (Array.replicate ops.size false) a w
def RegOk (P : Program) (cf : Cfg) : Code → Prop
  | .region id ops true => DrawnOk P cf id ops
  | .seq a b => RegOk P cf a ∧ RegOk P cf b
  | .cond _ a b => RegOk P cf a ∧ RegOk P cf b
  | .block _ c => RegOk P cf c
  | .loop c => RegOk P cf c
  | _ => True
theorem exists_least {p : Nat → Prop} (h : ∃ n, p n) : ∃ n, p n ∧ ∀ m, p m → n ≤ m := by
  obtain ⟨n, hn⟩ := h
  induction n using Nat.strongRecOn with
  | _ n ih =>
    by_cases h : ∃ m, m < n ∧ p m
    · obtain ⟨m, hm, hp⟩ := h; exact ih m hm hp
    · exact ⟨n, hn, fun m hm => Nat.le_of_not_lt fun hl => h ⟨m, hl, hm⟩⟩
noncomputable def least (p : Nat → Prop) : Nat := open Classical in if h : ∃ n, p n then Classical.choose (exists_least h) else 0
theorem least_spec {p : Nat → Prop} {n : Nat} (h : p n) : p (least p) ∧ ∀ m, p m → least p ≤ m := by
  have he : ∃ n, p n := ⟨n, h⟩
  unfold least
  rw [dif_pos he]
  exact Classical.choose_spec (exists_least he)
theorem loopCk_elim {an : Ann} (h : loopCk fz an = true) : (∀ t, t ∈ an.wr → may fz.t t = true) ∧ (∀ t, t ∈ an.tm → t ∈ an.wr) ∧ ∀ t, t ∈ an.lc → t ∉ fz.l := by
  unfold loopCk at h
  split at h
  · rename_i h1
    split at h
    · rename_i h2
      refine ⟨mays_mem h1, fun t ht => (nmem_eq _ _).1 (mays_mem h2 t ht), ?_⟩
      generalize an.lc = l at h
      induction l with
      | nil => simp
      | cons x xs ih =>
        have h' : (match nmem fz.l x with | true => true | false => false) = (match nmem fz.l x with | true => true | false => false) := rfl
        have h3 : (match nmem fz.l x with | true => false | false => (List.rec true (fun t _ ih => match nmem fz.l t with | true => false | false => ih) xs : Bool)) = true := h
        split at h3
        · cases h3
        · rename_i hx
          intro t ht
          rcases List.mem_cons.1 ht with rfl | ht
          · intro hm; rw [(nmem_eq _ _).2 hm] at hx; cases hx
          · exact ih h3 t ht
    · cases h
  · cases h
theorem projT_in {env : Env} {loc : Loc} {an : Ann} {h : Heap} {K' : List AV → List AV → Prop} (hk : projT env an.tm fun σt => projL loc an.lc fun σl => K' σt σl) : (∀ t, t ∈ an.lc → (lkp loc t).isSome) ∧ ∃ σt σl, K' σt σl := by
  obtain ⟨σt, t1, t2, hk1⟩ := projT_elim hk
  obtain ⟨σl, l1, hk2, l2, l3⟩ := projL_elim hk1
  exact ⟨l2, σt, σl, hk2⟩
theorem projT_mono {env : Env} : ∀ {ts : List Nat} {k k' : List AV → Prop}, (∀ l, k l → k' l) → projT env ts k → projT env ts k'
  | [], k, k', hi, h => hi _ h
  | t :: ts, k, k', hi, h => by
    have h1 : asAV (nth env t) fun v => projT env ts fun vs => k (v :: vs) := h
    show asAV (nth env t) fun v => projT env ts fun vs => k' (v :: vs)
    revert h1
    generalize nth env t = x
    intro h1
    cases x <;> first | exact projT_mono (fun l => hi _) h1 | exact (show False from h1).elim
theorem projL_mono {loc : Loc} : ∀ {ts : List Nat} {k k' : List AV → Prop}, (∀ l, k l → k' l) → projL loc ts k → projL loc ts k'
  | [], k, k', hi, h => hi _ h
  | t :: ts, k, k', hi, h => by
    have h1 : (match lkp loc t with | some cs => projL loc ts fun vs => k (cs ++ vs) | none => FF) := h
    show (match lkp loc t with | some cs => projL loc ts fun vs => k' (cs ++ vs) | none => FF)
    split at h1
    · exact projL_mono (fun l => hi _) h1
    · exact (show False from h1).elim
theorem Kept.loop {an : Ann} {kl ka : List Nat} {env1 env' : Env} {loc1 loc' : Loc} (hK : Kept ⟨some an.wr, kl, ka, false, []⟩ env1 env' loc1 loc') (hck : loopCk fz an = true)
    (hkl : ∀ t, t ∈ fz.l → t ∈ kl) (hka : ∀ t, t ∈ fz.a → t ∈ ka) (hlen : env1.length = env.length) (hwr : ∀ t, t ∉ an.wr → nth env1 t = nth env t)
    (hlc : ∀ t, t ∉ an.lc → lkp loc1 t = lkp loc t) (hls : ∀ t cs, t ∈ an.lc → lkp loc t = some cs → ∃ cs', lkp loc1 t = some cs' ∧ cs'.length = cs.length) : Kept fz env env' loc loc' := by
  obtain ⟨c1, c2, c3⟩ := loopCk_elim hck
  have hsome : ∀ t cs, lkp loc t = some cs → ∃ cs', lkp loc1 t = some cs' ∧ cs'.length = cs.length := fun t cs h => by
    by_cases e : t ∈ an.lc
    · exact hls t cs e h
    · exact ⟨cs, by rw [hlc t e]; exact h, rfl⟩
  refine ⟨hK.len.trans hlen, fun t ht => ?_, fun t ht => ?_, fun t ht => ?_, fun t cs ht hcs => ?_⟩
  · have hn : t ∉ an.wr := fun hm => by rw [c1 t hm] at ht; cases ht
    have : may (some an.wr) t = false := by
      cases hm : may (some an.wr) t with
      | false => rfl
      | true => exact (hn ((nmem_eq _ _).1 hm)).elim
    rw [hK.env t this, hwr t hn]
  · have e : t ∉ an.lc := fun hm => c3 t hm ht
    rw [hK.vars t (hkl t ht), hlc t e]
  · obtain ⟨cs, hcs⟩ := Option.isSome_iff_exists.1 ht
    obtain ⟨cs', h1, h2⟩ := hsome t cs hcs
    exact hK.keys t (by simp [h1])
  · obtain ⟨cs', h1, h2⟩ := hsome t cs hcs
    obtain ⟨c2, h3, h4⟩ := hK.lens t cs' (hka t ht) h1
    exact ⟨c2, h3, h4.trans h2⟩
theorem awp_sound (HT : TabOk P cf) (hm : P.follows .mixedOrders = true) : ∀ (c : Code), RegOk P cf c → ∀ {fz : Fz} {env : Env} {loc : Loc} {h : Heap} {a : Act} {w : World} {C : Cx} {β : Nat → Option Nat} {Q : KE},
    SR b env loc h a w C β → FzOk fz env → awp P cf c fz Q env loc h → c.wp P (Post b fz env loc Q) a w := by
  intro c
  induction c with
  | skip =>
    intro hr fz env loc h a w C β Q H hfz hk
    exact wp_skip ⟨env, loc, h, C, β, H, Kept.refl _ _ _, hk⟩
  | region id ops dr =>
    intro hr fz env loc h a w C β Q H hfz hk
    cases dr with
    | false =>
      refine wp_region (ops_sound HT (ol := ops.toList) ⟨by simp, fun j hj => ?_⟩ H hfz hk (fun a w hn => hn))
      have hj' : j < ops.size := by simpa using hj
      simp [List.getD_eq_getElem?_getD, hj']
    | true =>
      have hk' : (match annO cf.draws id with | some ord => awpOps P cf ⟨fz.t, fz.l, fz.a, true, cf.gds⟩ ops (pickOps ops.toList ord) (Q .normal) env loc h | none => FF) := hk
      split at hk'
      · rename_i ord ho
        exact wp_region_any hm (hr ho (H.step (Ev.draw H.ev.rel _)) hfz hk' (fun a w hn => hn))
      · exact (show False from hk').elim
  | seq x y ihx ihy =>
    intro hr fz env loc h a w C β Q H hfz hk
    refine wp_seq (wp_mono (ihx hr.1 H hfz hk) fun e a w hp => ?_)
    cases e with
    | normal =>
      obtain ⟨env', loc', h', C', β', H', K', hq⟩ := hp
      exact wp_mono (ihy hr.2 H' (hfz.kept K') hq) fun e a w hp => hp.kept K'
    | exit i => exact hp
    | ret => exact hp
    | goto l => exact hp.elim
    | panic c => exact hp.elim
    | outgrown => exact hp.elim
  | cond c x y ihx ihy =>
    intro hr fz env loc h a w C β Q H hfz hk
    have hk' : (match ev env c with | .bl true => awp P cf x fz Q env loc h | .bl false => awp P cf y fz Q env loc h | .av c => brA c (awp P cf x fz Q env loc h) (awp P cf y fz Q env loc h) | _ => FF) := hk
    have hc := ev_rep H c
    split at hk'
    · rename_i he
      rw [he] at hc
      exact wp_cond_true hc (ihx hr.1 H hfz hk')
    · rename_i he
      rw [he] at hc
      exact wp_cond_false hc (ihy hr.2 H hfz hk')
    · rename_i cv he
      rw [he] at hc
      rcases brA_elim hk' hc with ⟨hv, hk2⟩ | ⟨hv, hk2⟩
      · exact wp_cond_true hv (ihx hr.1 H hfz hk2)
      · exact wp_cond_false hv (ihy hr.2 H hfz hk2)
    · exact (show False from hk').elim
  | block id c ih =>
    intro hr fz env loc h a w C β Q H hfz hk
    refine wp_block (wp_mono (ih hr H hfz hk) fun e a w hp => ?_)
    cases e with
    | normal => exact hp
    | exit i =>
      obtain ⟨env', loc', h', C', β', H', K', hq⟩ := hp
      simp only at hq
      show if i = id then _ else _
      split at hq
      · rename_i hb
        rw [if_pos (nbeq.1 hb)]
        exact ⟨env', loc', h', C', β', H', K', hq⟩
      · rename_i hb
        rw [if_neg (nbeq_f hb)]
        exact ⟨env', loc', h', C', β', H', K', hq⟩
    | ret => exact hp
    | goto l => exact hp.elim
    | panic c => exact hp.elim
    | outgrown => exact hp.elim
  | loop c ih =>
    intro hr fz env loc h a w C β Q H hfz hk
    have hk' : (match ann cf.loops (Code.key c) with
      | none => FF
      | some an => projT env an.tm fun σt => projL loc an.lc fun σl => killsK env an.wr fun env0 =>
          keysK loc fz.a fun ka => restK an.lc loc fz.l fun kl => match loopCk fz an with
          | true => loopS (fun σ h K => injT σ env0 0 an.tm fun env n => injL σ loc n an.lc fun loc =>
            awp P cf c ⟨some an.wr, kl, ka, false, []⟩ (fun e env loc h => match e with
              | .normal => projT env an.tm fun σt => projL loc an.lc fun σl => K (σt ++ σl) h
              | .exit i => Q (.exit i) env loc h
              | .ret => Q .ret env loc h) env loc h) (σt ++ σl) h
          | false => FF) := hk
    split at hk'
    · exact (show False from hk').elim
    · rename_i an han
      obtain ⟨σt, t1, t2, hk1⟩ := projT_elim hk'
      obtain ⟨σl, l1, hk2, l2, l3⟩ := projL_elim hk1
      clear hk hk' hk1
      rw [killsK_eq] at hk2
      obtain ⟨ka, e1, hka⟩ := keysK_eq loc fz.a (fun ka => restK an.lc loc fz.l fun kl => match loopCk fz an with
          | true => loopS (fun σ h K => injT σ (an.wr.foldl (fun e t => e.set t .dead) env) 0 an.tm fun env n => injL σ loc n an.lc fun loc =>
            awp P cf c ⟨some an.wr, kl, ka, false, []⟩ (fun e env loc h => match e with
              | .normal => projT env an.tm fun σt => projL loc an.lc fun σl => K (σt ++ σl) h
              | .exit i => Q (.exit i) env loc h
              | .ret => Q .ret env loc h) env loc h) (σt ++ σl) h
          | false => FF)
      rw [e1] at hk2
      obtain ⟨kl, e2, hkl⟩ := restK_eq an.lc loc fz.l (fun kl => match loopCk fz an with
          | true => loopS (fun σ h K => injT σ (an.wr.foldl (fun e t => e.set t .dead) env) 0 an.tm fun env n => injL σ loc n an.lc fun loc =>
            awp P cf c ⟨some an.wr, kl, ka, false, []⟩ (fun e env loc h => match e with
              | .normal => projT env an.tm fun σt => projL loc an.lc fun σl => K (σt ++ σl) h
              | .exit i => Q (.exit i) env loc h
              | .ret => Q .ret env loc h) env loc h) (σt ++ σl) h
          | false => FF)
      rw [e2] at hk2
      clear e1 e2
      split at hk2
      case h_2 => exact (show False from hk2).elim
      rename_i hck
      obtain ⟨c1, c2, c3⟩ := loopCk_elim hck
      obtain ⟨I, hW, hround⟩ := hk2
      have hlk := H.lkey
      have hlenσ : (σt ++ σl).length = an.tm.length + tot (lenOf loc) an.lc := by rw [List.length_append, t1, l1]
      let J : Nat → Act → World → Prop := fun n a w => ∃ σ h C β, I n σ h ∧ σ.length = (σt ++ σl).length ∧
        ∀ loc2, Laid σ loc loc2 an.tm.length an.lc → SR b (injTf σ (an.wr.foldl (fun e t => e.set t .dead) env) 0 an.tm) loc2 h a w C β
      have hwr1 : ∀ (σ : List AV) t, t ∉ an.wr → nth (injTf σ (an.wr.foldl (fun e t => e.set t .dead) env) 0 an.tm) t = nth env t := fun σ t ht => by
        by_cases hl : t < env.length
        · rcases injTf_nth σ an.tm (an.wr.foldl (fun e t => e.set t .dead) env) 0 t (by rw [len_foldl_dead]; exact hl) with ⟨_, k2⟩ | ⟨i, k1, k2, k3⟩
          · rw [k2, nth_foldl_dead, if_neg ht]
          · exact (ht (c2 t (by rw [← k2]; simp [List.getD_eq_getElem?_getD, k1]))).elim
        · rw [nth_dead hl, nth_dead (by rw [injTf_len, len_foldl_dead]; exact hl)]
      refine wp_loop (fun a w => ∃ n, J n a w) (fun a w => least fun n => J n a w) ?_ ?_
      · obtain ⟨σ2, h2, C2, ⟨n, hI⟩, q2, q3⟩ := reenter H (an := an) rfl hlk (fun _ _ => rfl) (fun _ _ _ => rfl) (fun t cs _ h => ⟨cs, h, rfl⟩) l2 t1 t2 l1 l3 hW
        exact ⟨n, σ2, h2, C2, β, hI, by rw [q2, hlenσ], q3⟩
      · rintro a w ⟨n0, hJ0⟩
        obtain ⟨hJ, _⟩ := least_spec (p := fun n => J n a w) hJ0
        generalize hn : (least fun n => J n a w) = n at hJ
        obtain ⟨σ, h, C, β, hI, hlen, hSR⟩ := hJ
        have hb := hround n σ h hI hlen
        simp only [] at hb
        rw [injT_eq, Nat.zero_add] at hb
        obtain ⟨loc2, hb, hL⟩ := injL_elim hb
        have H2 := hSR loc2 hL
        have hin2 : ∀ t cs, t ∈ an.lc → lkp loc t = some cs → ∃ cs', lkp loc2 t = some cs' ∧ cs'.length = cs.length := fun t cs ht hcs => by
          obtain ⟨c', m, k1, k2, k3⟩ := hL.inn t ht
          rw [hcs] at k1; cases k1
          exact ⟨_, k3, gets_length _ _ _⟩
        have hfz2 : FzOk ⟨some an.wr, kl, ka, false, []⟩ (injTf σ (an.wr.foldl (fun e t => e.set t .dead) env) 0 an.tm) := by
          refine ⟨fun t u off ht he => ?_, fun t ht => ?_⟩
          · have ht' : t ∉ an.wr := fun hm => by have := (nmem_eq an.wr t).2 hm; rw [show may (some an.wr) t = nmem an.wr t from rfl, this] at ht; cases ht
            rw [hwr1 σ t ht'] at he
            exact (hka u).2 (.inr (hlk t u off he))
          · rcases (hkl t).1 ht with h | h
            · exact (hka t).2 (.inl (hfz.2 t h))
            · exact (hka t).2 (.inr h.1)
        have back : ∀ {env' : Env} {loc' : Loc}, Kept ⟨some an.wr, kl, ka, false, []⟩ (injTf σ (an.wr.foldl (fun e t => e.set t .dead) env) 0 an.tm) env' loc2 loc' → Kept fz env env' loc loc' := fun K' =>
          K'.loop hck (fun t ht => (hkl t).2 (.inl ht)) (fun t ht => (hka t).2 (.inl ht)) (by rw [injTf_len, len_foldl_dead]) (hwr1 σ) hL.out hin2
        refine wp_mono (ih hr H2 hfz2 hb) fun e a' w' hp => ?_
        cases e with
        | normal =>
          obtain ⟨env', loc', h', C', β', H', K', hq⟩ := hp
          obtain ⟨τt, r1, r2, hq1⟩ := projT_elim hq
          obtain ⟨τl, s1, hq2, s2, s3⟩ := projL_elim hq1
          obtain ⟨σ2, h2, C2, ⟨m, hm, hI2⟩, q2, q3⟩ := reenter H' (env := env) (loc := loc) (an := an) (by rw [K'.len, injTf_len, len_foldl_dead]) hlk
            (fun t ht => by
              have : may (some an.wr) t = false := by
                cases hm : may (some an.wr) t with
                | false => rfl
                | true => exact (ht ((nmem_eq _ _).1 hm)).elim
              rw [K'.env t this, hwr1 σ t ht])
            (fun t ht hs => by rw [K'.vars t ((hkl t).2 (.inr ⟨hs, ht⟩)), hL.out t ht])
            (fun t cs ht hcs => by
              obtain ⟨c1, k1, k2⟩ := hin2 t cs ht hcs
              obtain ⟨c2, k3, k4⟩ := K'.lens t c1 ((hka t).2 (.inr (by simp [hcs]))) k1
              exact ⟨c2, k3, k4.trans k2⟩) l2 r1 r2 s1 s3 hq2
          have hJ2 : J m a' w' := ⟨σ2, h2, C2, β', hI2, by rw [q2, hlenσ], q3⟩
          refine ⟨⟨m, hJ2⟩, ?_⟩
          have := (least_spec (p := fun n => J n a' w') hJ2).2 m hJ2
          exact Nat.lt_of_le_of_lt this hm
        | exit i =>
          obtain ⟨env', loc', h', C', β', H', K', hq⟩ := hp
          exact ⟨env', loc', h', C', β', H', back K', hq⟩
        | ret =>
          obtain ⟨env', loc', h', C', β', H', K', hq⟩ := hp
          exact ⟨env', loc', h', C', β', H', back K', hq⟩
        | goto l => exact hp.elim
        | panic c => exact hp.elim
        | outgrown => exact hp.elim
  | exit id =>
    intro hr fz env loc h a w C β Q H hfz hk
    exact wp_exit ⟨env, loc, h, C, β, H, Kept.refl _ _ _, hk⟩
  | ret =>
    intro hr fz env loc h a w C β Q H hfz hk
    exact wp_ret ⟨env, loc, h, C, β, H, Kept.refl _ _ _, hk⟩
  | _ =>
    intro hr fz env loc h a w C β Q H hfz hk
    exact (show False from hk).elim
end
end Am
