/- PD: joined of C1, C2, C3, D1, D2, D3, D4, D5, D6, D7, D8, D9, E1, E2, E3. -/
import Derived.Test.YtoifckjdnldlpaaGreatZPB
set_option linter.unusedVariables false
set_option linter.unusedSimpArgs false
namespace Am
open Go
section
variable {P : Program} {cf : Cfg} {fz : Fz} {b : Base} {env : Env} {loc : Loc} {h : Heap} {a : Act} {w : World} {C : Cx} {β : Nat → Option Nat} {k : K} {o : Oper}
theorem nth_dead {env : Env} {t : Nat} (h : ¬ t < env.length) : nth env t = .dead := by
  rw [nth_eq, List.getD_eq_getElem?_getD, List.getElem?_eq_none (Nat.le_of_not_lt h)]; rfl
theorem SR.weaken (H : SR b env loc h a w C β) {h2 : Heap} (hh : HRef h h2) {env2 : Env} {loc2 : Loc} (hlen : env2.length = env.length)
    (he : ∀ t, t < env.length → nth env2 t = nth env t ∨ nth env2 t = .dead ∨ ∃ v y, asV (nth env t) = some v ∧ nth env2 t = .av y ∧ Ref h h2 v y)
    (hk : ∀ t u off, nth env2 t = .loc u off → (lkp loc2 u).isSome)
    (hl : ∀ t cs2, lkp loc2 t = some cs2 → ∃ cs, lkp loc t = some cs ∧ cs2.length = cs.length ∧ ∀ j, j < cs.length → Ref h h2 (g cs j) (g cs2 j)) :
    SR b env2 loc2 h2 a w (C.drop h h2) β := by
  have H1 := H.step (HRef.sound H.ev.rel hh)
  refine ⟨H.dfr, by rw [hlen, H.len], fun t ht => ?_, hk, H1.ev, fun t cs2 hcs => ?_, fun t t' cs cs' x h1 h2 h3 h4 => ?_⟩
  · rw [hlen] at ht
    rcases he t ht with e | e | ⟨v, y, e1, e2, e3⟩
    · rw [e]; exact H1.tmp t ht
    · rw [e]; trivial
    · rw [e2]; exact e3.sound H.ev.rel ((H.tmp t ht).asV e1)
  · obtain ⟨cs, h1, h2, h3⟩ := hl t cs2 hcs
    obtain ⟨x, k1, k2, k3, k4, c, e, k5, k6, k7⟩ := H.vars t cs h1
    obtain ⟨x', m1, m2, m3, m4, m5⟩ := H1.vars t cs h1
    rw [k1] at m1; cases m1
    refine ⟨x, k1, k2, m3, m4, c, e, k5, by omega, fun j hj => ?_⟩
    obtain ⟨v, n1, n2, n3⟩ := k7 j (by omega)
    exact ⟨v, n1, n2, (h3 j (by omega)).sound H.ev.rel n3⟩
  · obtain ⟨c1, k1, _⟩ := hl t cs h1
    obtain ⟨c2, k2, _⟩ := hl t' cs' h2
    exact H.linj t t' c1 c2 x k1 k2 h3 h4
def injTf (σ : List AV) : Env → Nat → List Nat → Env
  | env, _, [] => env
  | env, n, t :: ts => injTf σ (env.set t (.av (g σ n))) (n + 1) ts
theorem injT_eq (σ : List AV) : ∀ (ts : List Nat) (env : Env) (n : Nat) (k : Env → Nat → Prop), injT σ env n ts k = k (injTf σ env n ts) (n + ts.length)
  | [], env, n, k => rfl
  | t :: ts, env, n, k => by
    simp only [injT, setK_eq, injTf, List.length_cons]
    rw [injT_eq σ ts]
    congr 1
    omega
theorem injTf_len (σ : List AV) : ∀ (ts : List Nat) (env : Env) (n : Nat), (injTf σ env n ts).length = env.length
  | [], env, n => rfl
  | t :: ts, env, n => by rw [injTf, injTf_len σ ts]; simp
theorem injTf_nth (σ : List AV) : ∀ (ts : List Nat) (env : Env) (n t : Nat), t < env.length →
    (t ∉ ts ∧ nth (injTf σ env n ts) t = nth env t) ∨ ∃ i, i < ts.length ∧ ts.getD i 0 = t ∧ nth (injTf σ env n ts) t = .av (g σ (n + i))
  | [], env, n, t, ht => .inl ⟨by simp, rfl⟩
  | s :: ts, env, n, t, ht => by
    rw [injTf]
    rcases injTf_nth σ ts (env.set s (.av (g σ n))) (n + 1) t (by simpa using ht) with ⟨h1, h2⟩ | ⟨i, h1, h2, h3⟩
    · rw [nth_set] at h2
      by_cases e : s = t
      · rw [if_pos ⟨e, ht⟩] at h2
        exact .inr ⟨0, by simp, by simpa using e, h2⟩
      · rw [if_neg (fun h => e h.1)] at h2
        exact .inl ⟨by simp [h1, Ne.symm e], h2⟩
    · exact .inr ⟨i + 1, by simp [h1], by simpa using h2, by rw [h3]; congr 2; omega⟩
theorem nth_foldl_dead : ∀ (ts : List Nat) (env : Env) (t : Nat), nth (ts.foldl (fun e t => e.set t .dead) env) t = if t ∈ ts then .dead else nth env t
  | [], env, t => by simp
  | s :: ts, env, t => by
    rw [List.foldl_cons, nth_foldl_dead ts, nth_set]
    by_cases h1 : t ∈ ts
    · simp [h1]
    · by_cases h2 : s = t
      · subst h2
        by_cases h3 : s < env.length
        · simp [h1, h3]
        · simp [h1, h3, nth_dead h3]
      · simp [h1, h2, Ne.symm h2]
theorem len_foldl_dead : ∀ (ts : List Nat) (env : Env), (ts.foldl (fun e t => e.set t .dead) env).length = env.length
  | [], env => rfl
  | s :: ts, env => by rw [List.foldl_cons, len_foldl_dead ts]; simp
theorem projT_elim {env : Env} : ∀ {ts : List Nat} {k : List AV → Prop}, projT env ts k → ∃ vs, vs.length = ts.length ∧ (∀ i, i < ts.length → asV (nth env (ts.getD i 0)) = some (g vs i)) ∧ k vs
  | [], k, h => ⟨[], rfl, by simp, h⟩
  | t :: ts, k, h => by
    obtain ⟨v, h1, h2⟩ := asAV_elim h
    obtain ⟨vs, h3, h4, h5⟩ := projT_elim h2
    refine ⟨v :: vs, by simp [h3], fun i hi => ?_, h5⟩
    cases i with
    | zero => simpa [g] using h1
    | succ i => have := h4 i (by simpa using hi); simpa [g] using this
noncomputable def lenOf (loc : Loc) (t : Nat) : Nat := ((lkp loc t).getD []).length
def At (len : Nat → Nat) : Nat → List Nat → Nat → Nat → Prop
  | _, [], _, _ => False
  | n, t :: ts, u, m => (u = t ∧ m = n) ∨ At len (n + len t) ts u m
def tot (len : Nat → Nat) : List Nat → Nat
  | [] => 0
  | t :: ts => len t + tot len ts
theorem At.congr {len len' : Nat → Nat} : ∀ {ts : List Nat} {n u m : Nat}, (∀ t, t ∈ ts → len t = len' t) → At len n ts u m → At len' n ts u m
  | [], _, _, _, _, h => h
  | t :: ts, n, u, m, he, h => by
    rcases h with h | h
    · exact .inl h
    · exact .inr (by rw [← he t (by simp)]; exact At.congr (fun s hs => he s (by simp [hs])) h)
theorem tot.congr {len len' : Nat → Nat} : ∀ {ts : List Nat}, (∀ t, t ∈ ts → len t = len' t) → tot len ts = tot len' ts
  | [], _ => rfl
  | t :: ts, he => by rw [tot, tot, he t (by simp), tot.congr (fun s hs => he s (by simp [hs]))]
theorem projL_elim {loc : Loc} : ∀ {ts : List Nat} {k : List AV → Prop}, projL loc ts k → ∃ l, l.length = tot (lenOf loc) ts ∧ k l ∧ (∀ t, t ∈ ts → (lkp loc t).isSome) ∧
    ∀ n u m, At (lenOf loc) n ts u m → ∃ cs, lkp loc u = some cs ∧ n ≤ m ∧ (m - n) + cs.length ≤ l.length ∧ ∀ j, j < cs.length → g l (m - n + j) = g cs j
  | [], k, h => ⟨[], rfl, h, by simp, fun _ _ _ h => h.elim⟩
  | t :: ts, k, h => by
    have h' : (match lkp loc t with | some cs => projL loc ts fun vs => k (cs ++ vs) | none => FF) := h
    split at h'
    · rename_i cs hcs
      obtain ⟨l, h1, h2, h3, h4⟩ := projL_elim h'
      have hlen : lenOf loc t = cs.length := by simp [lenOf, hcs]
      refine ⟨cs ++ l, by simp [tot, h1, hlen], h2, fun s hs => ?_, fun n u m hat => ?_⟩
      · rcases List.mem_cons.1 hs with rfl | hs
        · simp [hcs]
        · exact h3 s hs
      · rcases hat with ⟨rfl, rfl⟩ | hat
        · exact ⟨cs, hcs, Nat.le_refl _, by simp, fun j hj => by rw [Nat.sub_self, Nat.zero_add]; exact getD_app_l hj⟩
        · obtain ⟨cs', k1, k2, k3, k4⟩ := h4 _ u m hat
          rw [hlen] at k2 k3 k4
          refine ⟨cs', k1, by omega, by simp; omega, fun j hj => ?_⟩
          have : g (cs ++ l) (m - n + j) = g l (m - n + j - cs.length) := getD_app_r (by omega)
          rw [this, ← k4 j hj]
          congr 1
          omega
    · exact (show False from h').elim
structure Laid (σ : List AV) (loc loc2 : Loc) (n : Nat) (ts : List Nat) : Prop where
  out : ∀ u, u ∉ ts → lkp loc2 u = lkp loc u
  inn : ∀ u, u ∈ ts → ∃ cs m, lkp loc u = some cs ∧ At (lenOf loc) n ts u m ∧ lkp loc2 u = some (gets σ m cs.length)
theorem injL_elim {σ : List AV} : ∀ {ts : List Nat} {loc : Loc} {n : Nat} {k : Loc → Prop}, injL σ loc n ts k → ∃ loc2, k loc2 ∧ Laid σ loc loc2 n ts
  | [], loc, n, k, h => ⟨loc, h, ⟨fun _ _ => rfl, by simp⟩⟩
  | t :: ts, loc, n, k, h => by
    have h' : (match lkp loc t with | some cs => lsetK loc t (gets σ n cs.length) fun loc => injL σ loc (n + cs.length) ts k | none => FF) := h
    split at h'
    · rename_i cs hcs
      rw [lsetK_eq] at h'
      obtain ⟨loc2, h1, h2⟩ := injL_elim h'
      have hlen : lenOf loc t = cs.length := by simp [lenOf, hcs]
      have hle : ∀ u, lenOf (lset loc t (gets σ n cs.length)) u = lenOf loc u := fun u => by
        simp only [lenOf, lkp_lset]
        split
        · rename_i e; subst e; simp [hcs, gets_length]
        · rfl
      refine ⟨loc2, h1, ⟨fun u hu => ?_, fun u hu => ?_⟩⟩
      · rw [h2.out u (fun h => hu (by simp [h])), lkp_lset, if_neg (fun e => hu (by simp [e]))]
      · by_cases hut : u ∈ ts
        · obtain ⟨c, m, k1, k2, k3⟩ := h2.inn u hut
          have k2' := k2.congr (len' := lenOf loc) (fun t _ => hle t)
          rw [lkp_lset] at k1
          by_cases e : t = u
          · subst e
            rw [if_pos rfl] at k1; cases k1
            rw [gets_length] at k3
            exact ⟨cs, m, hcs, .inr (by rw [hlen]; exact k2'), k3⟩
          · rw [if_neg e] at k1
            exact ⟨c, m, k1, .inr (by rw [hlen]; exact k2'), k3⟩
        · have e : u = t := by
            rcases List.mem_cons.1 hu with h | h
            · exact h
            · exact (hut h).elim
          subst e
          refine ⟨cs, n, hcs, .inl ⟨rfl, rfl⟩, ?_⟩
          rw [h2.out u hut, lkp_lset, if_pos rfl]
    · exact (show False from h').elim
theorem reenter {env' : Env} {loc' : Loc} (H : SR b env' loc' h a w C β) {an : Ann} (hlen : env'.length = env.length) (hlk : ∀ t u off, nth env t = .loc u off → (lkp loc u).isSome)
    (hwr : ∀ t, t ∉ an.wr → nth env' t = nth env t) (hlc : ∀ t, t ∉ an.lc → (lkp loc t).isSome → lkp loc' t = lkp loc t)
    (hll : ∀ t cs, t ∈ an.lc → lkp loc t = some cs → ∃ cs', lkp loc' t = some cs' ∧ cs'.length = cs.length)
    {Kσ : List AV → Heap → Prop} (hin : ∀ t, t ∈ an.lc → (lkp loc t).isSome) {σt σl : List AV} (t1 : σt.length = an.tm.length) (t2 : ∀ i, i < an.tm.length → asV (nth env' (an.tm.getD i 0)) = some (g σt i)) (l1 : σl.length = tot (lenOf loc') an.lc)
    (l3 : ∀ n u m, At (lenOf loc') n an.lc u m → ∃ cs, lkp loc' u = some cs ∧ n ≤ m ∧ (m - n) + cs.length ≤ σl.length ∧ ∀ j, j < cs.length → g σl (m - n + j) = g cs j)
    (hk2 : Wk (σt ++ σl) h Kσ) :
    ∃ σ2 h2 C2, Kσ σ2 h2 ∧ σ2.length = an.tm.length + tot (lenOf loc) an.lc ∧
      ∀ loc2, Laid σ2 loc loc2 an.tm.length an.lc → SR b (injTf σ2 (an.wr.foldl (fun e t => e.set t .dead) env) 0 an.tm) loc2 h2 a w C2 β := by
  obtain ⟨σ2, h2, hh, w1, w2, w3⟩ := hk2
  have hle : ∀ t, t ∈ an.lc → lenOf loc' t = lenOf loc t := fun t ht => by
    obtain ⟨cs, hcs⟩ := Option.isSome_iff_exists.1 (hin t ht)
    obtain ⟨cs', h1, h2⟩ := hll t cs ht hcs
    simp [lenOf, hcs, h1, h2]
  refine ⟨σ2, h2, C.drop h h2, w3, by rw [w1, List.length_append, t1, l1, tot.congr hle], fun loc2 hL => ?_⟩
  have hlk2 : ∀ u, (lkp loc u).isSome → (lkp loc2 u).isSome := fun u hu => by
    by_cases e : u ∈ an.lc
    · obtain ⟨cs, m, h1, h2, h3⟩ := hL.inn u e
      simp [h3]
    · rw [hL.out u e]; exact hu
  refine H.weaken hh ?_ (fun t ht => ?_) (fun t u off hn => ?_) (fun t cs2 hcs => ?_)
  · rw [injTf_len, len_foldl_dead, hlen]
  · rcases injTf_nth σ2 an.tm (an.wr.foldl (fun e t => e.set t .dead) env) 0 t (by rw [len_foldl_dead, ← hlen]; exact ht) with ⟨h1, h2⟩ | ⟨i, h1, h2, h3⟩
    · rw [h2, nth_foldl_dead]
      by_cases e : t ∈ an.wr
      · rw [if_pos e]; exact .inr (.inl rfl)
      · rw [if_neg e]; exact .inl (hwr t e).symm
    · refine .inr (.inr ⟨g σt i, _, ?_, h3, ?_⟩)
      · rw [← h2]; exact t2 i h1
      · have := w2 i (by rw [List.length_append]; omega)
        have e : g (σt ++ σl) i = g σt i := getD_app_l (by omega)
        rw [e] at this
        simpa using this
  · by_cases ht : t < env.length
    · rcases injTf_nth σ2 an.tm (an.wr.foldl (fun e t => e.set t .dead) env) 0 t (by rw [len_foldl_dead]; exact ht) with ⟨h1, h2⟩ | ⟨i, h1, h2, h3⟩
      · rw [h2, nth_foldl_dead] at hn
        split at hn
        · cases hn
        · exact hlk2 u (hlk t u off hn)
      · rw [h3] at hn; cases hn
    · rw [nth_dead (by rw [injTf_len, len_foldl_dead]; exact ht)] at hn; cases hn
  · by_cases e : t ∈ an.lc
    · obtain ⟨cs, m, h1, h2, h3⟩ := hL.inn t e
      rw [hcs] at h3; cases h3
      obtain ⟨cs', h4, h5⟩ := hll t cs e h1
      obtain ⟨c, h6, h7, h8, h9⟩ := l3 _ t m (h2.congr (fun t ht => (hle t ht).symm))
      rw [h4] at h6; cases h6
      refine ⟨cs', h4, by rw [gets_length, h5], fun j hj => ?_⟩
      rw [g_gets _ _ _ _ (by omega)]
      have := w2 (m + j) (by rw [List.length_append]; omega)
      have e2 : g (σt ++ σl) (m + j) = g σl (m + j - σt.length) := getD_app_r (by omega)
      rw [e2, show m + j - σt.length = m - an.tm.length + j by omega, h9 j hj] at this
      exact this
    · rw [hL.out t e] at hcs
      have := hlc t e (by simp [hcs])
      exact ⟨cs2, by rw [this]; exact hcs, rfl, fun j _ => .refl⟩
end
end Am
set_option linter.unusedVariables false
set_option linter.unusedSimpArgs false
namespace Am
open Go
section
variable {P : Program} {cf : Cfg} {fz : Fz} {b : Base} {env : Env} {loc : Loc} {h : Heap} {a : Act} {w : World} {C : Cx} {β : Nat → Option Nat} {k : K} {o : Oper}
def Post (b : Base) (fz : Fz) (env : Env) (loc : Loc) (Q : KE) : Exit → Act → World → Prop
  | .normal, a, w => Next b fz env loc (Q .normal) a w
  | .exit i, a, w => Next b fz env loc (Q (.exit i)) a w
  | .ret, a, w => Next b fz env loc (Q .ret) a w
  | _, _, _ => False
theorem Post.kept {Q : KE} {env1 : Env} {loc1 : Loc} (hk : Kept fz env env1 loc loc1) {e : Exit} {a : Act} {w : World} (hp : Post b fz env1 loc1 Q e a w) : Post b fz env loc Q e a w := by
  cases e with
  | normal => exact Next.kept hk hp
  | exit i => exact Next.kept hk hp
  | ret => exact Next.kept hk hp
  | goto l => exact hp.elim
  | panic c => exact hp.elim
  | outgrown => exact hp.elim
def DrawnOk (P : Program) (cf : Cfg) (id : Nat) (ops : Array Oper) : Prop :=
  ∀ {fz : Fz} {b : Base} {env : Env} {loc : Loc} {h : Heap} {a : Act} {w : World} {C : Cx} {β : Nat → Option Nat} {k : K} {Q : Exit → Act → World → Prop} {ord : List Nat},
    annO cf.draws id = some ord → SR b env loc h a w C β → FzOk fz env → awpReg P cf ⟨fz.t, fz.l, fz.a, true, cf.gds⟩ ops ord k env loc h →
    (∀ a w, Next b fz env loc k a w → Q .normal a w) → wpAny P .any ops Q ops.size (Array.replicate ops.size false) a w
def RegOk (P : Program) (cf : Cfg) : Code → Prop
  | .region id ops true => DrawnOk P cf id ops
  | .seq a b => RegOk P cf a ∧ RegOk P cf b
  | .cond _ a b => RegOk P cf a ∧ RegOk P cf b
  | .block _ c => RegOk P cf c
  | .loop c => RegOk P cf c
  | _ => True
theorem exists_least {p : Nat → Prop} (h : ∃ n, p n) : ∃ n, p n ∧ ∀ m, p m → n ≤ m := by
  obtain ⟨n, hn⟩ := h
  induction n using Nat.strongRecOn with
  | _ n ih =>
    by_cases h : ∃ m, m < n ∧ p m
    · obtain ⟨m, hm, hp⟩ := h; exact ih m hm hp
    · exact ⟨n, hn, fun m hm => Nat.le_of_not_lt fun hl => h ⟨m, hl, hm⟩⟩
noncomputable def least (p : Nat → Prop) : Nat := open Classical in if h : ∃ n, p n then Classical.choose (exists_least h) else 0
theorem least_spec {p : Nat → Prop} {n : Nat} (h : p n) : p (least p) ∧ ∀ m, p m → least p ≤ m := by
  have he : ∃ n, p n := ⟨n, h⟩
  unfold least
  rw [dif_pos he]
  exact Classical.choose_spec (exists_least he)
theorem loopCk_elim {an : Ann} (h : loopCk fz an = true) : (∀ t, t ∈ an.wr → may fz.t t = true) ∧ (∀ t, t ∈ an.tm → t ∈ an.wr) ∧ ∀ t, t ∈ an.lc → t ∉ fz.l := by
  unfold loopCk at h
  split at h
  · rename_i h1
    split at h
    · rename_i h2
      refine ⟨mays_mem h1, fun t ht => (nmem_eq _ _).1 (mays_mem h2 t ht), ?_⟩
      generalize an.lc = l at h
      induction l with
      | nil => simp
      | cons x xs ih =>
        have h' : (match nmem fz.l x with | true => true | false => false) = (match nmem fz.l x with | true => true | false => false) := rfl
        have h3 : (match nmem fz.l x with | true => false | false => (List.rec true (fun t _ ih => match nmem fz.l t with | true => false | false => ih) xs : Bool)) = true := h
        split at h3
        · cases h3
        · rename_i hx
          intro t ht
          rcases List.mem_cons.1 ht with rfl | ht
          · intro hm; rw [(nmem_eq _ _).2 hm] at hx; cases hx
          · exact ih h3 t ht
    · cases h
  · cases h
theorem projT_in {env : Env} {loc : Loc} {an : Ann} {h : Heap} {K' : List AV → List AV → Prop} (hk : projT env an.tm fun σt => projL loc an.lc fun σl => K' σt σl) : (∀ t, t ∈ an.lc → (lkp loc t).isSome) ∧ ∃ σt σl, K' σt σl := by
  obtain ⟨σt, t1, t2, hk1⟩ := projT_elim hk
  obtain ⟨σl, l1, hk2, l2, l3⟩ := projL_elim hk1
  exact ⟨l2, σt, σl, hk2⟩
theorem projT_mono {env : Env} : ∀ {ts : List Nat} {k k' : List AV → Prop}, (∀ l, k l → k' l) → projT env ts k → projT env ts k'
  | [], k, k', hi, h => hi _ h
  | t :: ts, k, k', hi, h => by
    have h1 : asAV (nth env t) fun v => projT env ts fun vs => k (v :: vs) := h
    show asAV (nth env t) fun v => projT env ts fun vs => k' (v :: vs)
    revert h1
    generalize nth env t = x
    intro h1
    cases x <;> first | exact projT_mono (fun l => hi _) h1 | exact (show False from h1).elim
theorem projL_mono {loc : Loc} : ∀ {ts : List Nat} {k k' : List AV → Prop}, (∀ l, k l → k' l) → projL loc ts k → projL loc ts k'
  | [], k, k', hi, h => hi _ h
  | t :: ts, k, k', hi, h => by
    have h1 : (match lkp loc t with | some cs => projL loc ts fun vs => k (cs ++ vs) | none => FF) := h
    show (match lkp loc t with | some cs => projL loc ts fun vs => k' (cs ++ vs) | none => FF)
    split at h1
    · exact projL_mono (fun l => hi _) h1
    · exact (show False from h1).elim
theorem Kept.loop {an : Ann} {kl ka : List Nat} {env1 env' : Env} {loc1 loc' : Loc} (hK : Kept ⟨some an.wr, kl, ka, false, []⟩ env1 env' loc1 loc') (hck : loopCk fz an = true)
    (hkl : ∀ t, t ∈ fz.l → t ∈ kl) (hka : ∀ t, t ∈ fz.a → t ∈ ka) (hlen : env1.length = env.length) (hwr : ∀ t, t ∉ an.wr → nth env1 t = nth env t)
    (hlc : ∀ t, t ∉ an.lc → lkp loc1 t = lkp loc t) (hls : ∀ t cs, t ∈ an.lc → lkp loc t = some cs → ∃ cs', lkp loc1 t = some cs' ∧ cs'.length = cs.length) : Kept fz env env' loc loc' := by
  obtain ⟨c1, c2, c3⟩ := loopCk_elim hck
  have hsome : ∀ t cs, lkp loc t = some cs → ∃ cs', lkp loc1 t = some cs' ∧ cs'.length = cs.length := fun t cs h => by
    by_cases e : t ∈ an.lc
    · exact hls t cs e h
    · exact ⟨cs, by rw [hlc t e]; exact h, rfl⟩
  refine ⟨hK.len.trans hlen, fun t ht => ?_, fun t ht => ?_, fun t ht => ?_, fun t cs ht hcs => ?_⟩
  · have hn : t ∉ an.wr := fun hm => by rw [c1 t hm] at ht; cases ht
    have : may (some an.wr) t = false := by
      cases hm : may (some an.wr) t with
      | false => rfl
      | true => exact (hn ((nmem_eq _ _).1 hm)).elim
    rw [hK.env t this, hwr t hn]
  · have e : t ∉ an.lc := fun hm => c3 t hm ht
    rw [hK.vars t (hkl t ht), hlc t e]
  · obtain ⟨cs, hcs⟩ := Option.isSome_iff_exists.1 ht
    obtain ⟨cs', h1, h2⟩ := hsome t cs hcs
    exact hK.keys t (by simp [h1])
  · obtain ⟨cs', h1, h2⟩ := hsome t cs hcs
    obtain ⟨c2, h3, h4⟩ := hK.lens t cs' (hka t ht) h1
    exact ⟨c2, h3, h4.trans h2⟩
theorem awp_sound (HT : TabOk P cf) (hm : P.follows .mixedOrders = true) : ∀ (c : Code), RegOk P cf c → ∀ {fz : Fz} {env : Env} {loc : Loc} {h : Heap} {a : Act} {w : World} {C : Cx} {β : Nat → Option Nat} {Q : KE},
    SR b env loc h a w C β → FzOk fz env → awp P cf c fz Q env loc h → c.wp P (Post b fz env loc Q) a w := by
  intro c
  induction c with
  | skip =>
    intro hr fz env loc h a w C β Q H hfz hk
    exact wp_skip ⟨env, loc, h, C, β, H, Kept.refl _ _ _, hk⟩
  | region id ops dr =>
    intro hr fz env loc h a w C β Q H hfz hk
    cases dr with
    | false =>
      refine wp_region (ops_sound HT (ol := ops.toList) ⟨by simp, fun j hj => ?_⟩ H hfz hk (fun a w hn => hn))
      have hj' : j < ops.size := by simpa using hj
      simp [List.getD_eq_getElem?_getD, hj']
    | true =>
      have hk' : (match annO cf.draws id with | some ord => awpReg P cf ⟨fz.t, fz.l, fz.a, true, cf.gds⟩ ops ord (Q .normal) env loc h | none => FF) := hk
      split at hk'
      · rename_i ord ho
        exact wp_region_any hm (hr ho (H.step (Ev.draw H.ev.rel _)) hfz hk' (fun a w hn => hn))
      · exact (show False from hk').elim
  | seq x y ihx ihy =>
    intro hr fz env loc h a w C β Q H hfz hk
    refine wp_seq (wp_mono (ihx hr.1 H hfz hk) fun e a w hp => ?_)
    cases e with
    | normal =>
      obtain ⟨env', loc', h', C', β', H', K', hq⟩ := hp
      exact wp_mono (ihy hr.2 H' (hfz.kept K') hq) fun e a w hp => hp.kept K'
    | exit i => exact hp
    | ret => exact hp
    | goto l => exact hp.elim
    | panic c => exact hp.elim
    | outgrown => exact hp.elim
  | cond c x y ihx ihy =>
    intro hr fz env loc h a w C β Q H hfz hk
    have hk' : (match ev env c with | .bl true => awp P cf x fz Q env loc h | .bl false => awp P cf y fz Q env loc h | .av c => brA c (awp P cf x fz Q env loc h) (awp P cf y fz Q env loc h) | _ => FF) := hk
    have hc := ev_rep H c
    split at hk'
    · rename_i he
      rw [he] at hc
      exact wp_cond_true hc (ihx hr.1 H hfz hk')
    · rename_i he
      rw [he] at hc
      exact wp_cond_false hc (ihy hr.2 H hfz hk')
    · rename_i cv he
      rw [he] at hc
      rcases brA_elim hk' hc with ⟨hv, hk2⟩ | ⟨hv, hk2⟩
      · exact wp_cond_true hv (ihx hr.1 H hfz hk2)
      · exact wp_cond_false hv (ihy hr.2 H hfz hk2)
    · exact (show False from hk').elim
  | block id c ih =>
    intro hr fz env loc h a w C β Q H hfz hk
    refine wp_block (wp_mono (ih hr H hfz hk) fun e a w hp => ?_)
    cases e with
    | normal => exact hp
    | exit i =>
      obtain ⟨env', loc', h', C', β', H', K', hq⟩ := hp
      simp only at hq
      show if i = id then _ else _
      split at hq
      · rename_i hb
        rw [if_pos (nbeq.1 hb)]
        exact ⟨env', loc', h', C', β', H', K', hq⟩
      · rename_i hb
        rw [if_neg (nbeq_f hb)]
        exact ⟨env', loc', h', C', β', H', K', hq⟩
    | ret => exact hp
    | goto l => exact hp.elim
    | panic c => exact hp.elim
    | outgrown => exact hp.elim
  | loop c ih =>
    intro hr fz env loc h a w C β Q H hfz hk
    have hk' : (match ann cf.loops (Code.key c) with
      | none => FF
      | some an => projT env an.tm fun σt => projL loc an.lc fun σl => killsK env an.wr fun env0 =>
          keysK loc fz.a fun ka => restK an.lc loc fz.l fun kl => match loopCk fz an with
          | true => loopS (fun σ h K => injT σ env0 0 an.tm fun env n => injL σ loc n an.lc fun loc =>
            awp P cf c ⟨some an.wr, kl, ka, false, []⟩ (fun e env loc h => match e with
              | .normal => projT env an.tm fun σt => projL loc an.lc fun σl => K (σt ++ σl) h
              | .exit i => Q (.exit i) env loc h
              | .ret => Q .ret env loc h) env loc h) (σt ++ σl) h
          | false => FF) := hk
    split at hk'
    · exact (show False from hk').elim
    · rename_i an han
      obtain ⟨σt, t1, t2, hk1⟩ := projT_elim hk'
      obtain ⟨σl, l1, hk2, l2, l3⟩ := projL_elim hk1
      clear hk hk' hk1
      rw [killsK_eq] at hk2
      obtain ⟨ka, e1, hka⟩ := keysK_eq loc fz.a (fun ka => restK an.lc loc fz.l fun kl => match loopCk fz an with
          | true => loopS (fun σ h K => injT σ (an.wr.foldl (fun e t => e.set t .dead) env) 0 an.tm fun env n => injL σ loc n an.lc fun loc =>
            awp P cf c ⟨some an.wr, kl, ka, false, []⟩ (fun e env loc h => match e with
              | .normal => projT env an.tm fun σt => projL loc an.lc fun σl => K (σt ++ σl) h
              | .exit i => Q (.exit i) env loc h
              | .ret => Q .ret env loc h) env loc h) (σt ++ σl) h
          | false => FF)
      rw [e1] at hk2
      obtain ⟨kl, e2, hkl⟩ := restK_eq an.lc loc fz.l (fun kl => match loopCk fz an with
          | true => loopS (fun σ h K => injT σ (an.wr.foldl (fun e t => e.set t .dead) env) 0 an.tm fun env n => injL σ loc n an.lc fun loc =>
            awp P cf c ⟨some an.wr, kl, ka, false, []⟩ (fun e env loc h => match e with
              | .normal => projT env an.tm fun σt => projL loc an.lc fun σl => K (σt ++ σl) h
              | .exit i => Q (.exit i) env loc h
              | .ret => Q .ret env loc h) env loc h) (σt ++ σl) h
          | false => FF)
      rw [e2] at hk2
      clear e1 e2
      split at hk2
      case h_2 => exact (show False from hk2).elim
      rename_i hck
      obtain ⟨c1, c2, c3⟩ := loopCk_elim hck
      obtain ⟨I, hW, hround⟩ := hk2
      have hlk := H.lkey
      have hlenσ : (σt ++ σl).length = an.tm.length + tot (lenOf loc) an.lc := by rw [List.length_append, t1, l1]
      let J : Nat → Act → World → Prop := fun n a w => ∃ σ h C β, I n σ h ∧ σ.length = (σt ++ σl).length ∧
        ∀ loc2, Laid σ loc loc2 an.tm.length an.lc → SR b (injTf σ (an.wr.foldl (fun e t => e.set t .dead) env) 0 an.tm) loc2 h a w C β
      have hwr1 : ∀ (σ : List AV) t, t ∉ an.wr → nth (injTf σ (an.wr.foldl (fun e t => e.set t .dead) env) 0 an.tm) t = nth env t := fun σ t ht => by
        by_cases hl : t < env.length
        · rcases injTf_nth σ an.tm (an.wr.foldl (fun e t => e.set t .dead) env) 0 t (by rw [len_foldl_dead]; exact hl) with ⟨_, k2⟩ | ⟨i, k1, k2, k3⟩
          · rw [k2, nth_foldl_dead, if_neg ht]
          · exact (ht (c2 t (by rw [← k2]; simp [List.getD_eq_getElem?_getD, k1]))).elim
        · rw [nth_dead hl, nth_dead (by rw [injTf_len, len_foldl_dead]; exact hl)]
      refine wp_loop (fun a w => ∃ n, J n a w) (fun a w => least fun n => J n a w) ?_ ?_
      · obtain ⟨σ2, h2, C2, ⟨n, hI⟩, q2, q3⟩ := reenter H (an := an) rfl hlk (fun _ _ => rfl) (fun _ _ _ => rfl) (fun t cs _ h => ⟨cs, h, rfl⟩) l2 t1 t2 l1 l3 hW
        exact ⟨n, σ2, h2, C2, β, hI, by rw [q2, hlenσ], q3⟩
      · rintro a w ⟨n0, hJ0⟩
        obtain ⟨hJ, _⟩ := least_spec (p := fun n => J n a w) hJ0
        generalize hn : (least fun n => J n a w) = n at hJ
        obtain ⟨σ, h, C, β, hI, hlen, hSR⟩ := hJ
        have hb := hround n σ h hI hlen
        simp only [] at hb
        rw [injT_eq, Nat.zero_add] at hb
        obtain ⟨loc2, hb, hL⟩ := injL_elim hb
        have H2 := hSR loc2 hL
        have hin2 : ∀ t cs, t ∈ an.lc → lkp loc t = some cs → ∃ cs', lkp loc2 t = some cs' ∧ cs'.length = cs.length := fun t cs ht hcs => by
          obtain ⟨c', m, k1, k2, k3⟩ := hL.inn t ht
          rw [hcs] at k1; cases k1
          exact ⟨_, k3, gets_length _ _ _⟩
        have hfz2 : FzOk ⟨some an.wr, kl, ka, false, []⟩ (injTf σ (an.wr.foldl (fun e t => e.set t .dead) env) 0 an.tm) := by
          refine ⟨fun t u off ht he => ?_, fun t ht => ?_⟩
          · have ht' : t ∉ an.wr := fun hm => by have := (nmem_eq an.wr t).2 hm; rw [show may (some an.wr) t = nmem an.wr t from rfl, this] at ht; cases ht
            rw [hwr1 σ t ht'] at he
            exact (hka u).2 (.inr (hlk t u off he))
          · rcases (hkl t).1 ht with h | h
            · exact (hka t).2 (.inl (hfz.2 t h))
            · exact (hka t).2 (.inr h.1)
        have back : ∀ {env' : Env} {loc' : Loc}, Kept ⟨some an.wr, kl, ka, false, []⟩ (injTf σ (an.wr.foldl (fun e t => e.set t .dead) env) 0 an.tm) env' loc2 loc' → Kept fz env env' loc loc' := fun K' =>
          K'.loop hck (fun t ht => (hkl t).2 (.inl ht)) (fun t ht => (hka t).2 (.inl ht)) (by rw [injTf_len, len_foldl_dead]) (hwr1 σ) hL.out hin2
        refine wp_mono (ih hr H2 hfz2 hb) fun e a' w' hp => ?_
        cases e with
        | normal =>
          obtain ⟨env', loc', h', C', β', H', K', hq⟩ := hp
          obtain ⟨τt, r1, r2, hq1⟩ := projT_elim hq
          obtain ⟨τl, s1, hq2, s2, s3⟩ := projL_elim hq1
          obtain ⟨σ2, h2, C2, ⟨m, hm, hI2⟩, q2, q3⟩ := reenter H' (env := env) (loc := loc) (an := an) (by rw [K'.len, injTf_len, len_foldl_dead]) hlk
            (fun t ht => by
              have : may (some an.wr) t = false := by
                cases hm : may (some an.wr) t with
                | false => rfl
                | true => exact (ht ((nmem_eq _ _).1 hm)).elim
              rw [K'.env t this, hwr1 σ t ht])
            (fun t ht hs => by rw [K'.vars t ((hkl t).2 (.inr ⟨hs, ht⟩)), hL.out t ht])
            (fun t cs ht hcs => by
              obtain ⟨c1, k1, k2⟩ := hin2 t cs ht hcs
              obtain ⟨c2, k3, k4⟩ := K'.lens t c1 ((hka t).2 (.inr (by simp [hcs]))) k1
              exact ⟨c2, k3, k4.trans k2⟩) l2 r1 r2 s1 s3 hq2
          have hJ2 : J m a' w' := ⟨σ2, h2, C2, β', hI2, by rw [q2, hlenσ], q3⟩
          refine ⟨⟨m, hJ2⟩, ?_⟩
          have := (least_spec (p := fun n => J n a' w') hJ2).2 m hJ2
          exact Nat.lt_of_le_of_lt this hm
        | exit i =>
          obtain ⟨env', loc', h', C', β', H', K', hq⟩ := hp
          exact ⟨env', loc', h', C', β', H', back K', hq⟩
        | ret =>
          obtain ⟨env', loc', h', C', β', H', K', hq⟩ := hp
          exact ⟨env', loc', h', C', β', H', back K', hq⟩
        | goto l => exact hp.elim
        | panic c => exact hp.elim
        | outgrown => exact hp.elim
  | exit id =>
    intro hr fz env loc h a w C β Q H hfz hk
    exact wp_exit ⟨env, loc, h, C, β, H, Kept.refl _ _ _, hk⟩
  | ret =>
    intro hr fz env loc h a w C β Q H hfz hk
    exact wp_ret ⟨env, loc, h, C, β, H, Kept.refl _ _ _, hk⟩
  | _ =>
    intro hr fz env loc h a w C β Q H hfz hk
    exact (show False from hk).elim
end
end Am
set_option linter.unusedVariables false
set_option linter.unusedSimpArgs false
namespace Am
open Go
section
variable {P : Program} {cf : Cfg} {fz : Fz} {b : Base} {env : Env} {loc : Loc} {h : Heap} {a : Act} {w : World} {C : Cx} {β : Nat → Option Nat} {k : K} {o : Oper}
def resOne (tmps : Array Value) : ResultVar → Sem Value
  | .tmp t => pure (tmps.getD t undef)
  | .cell a t => do loadVar t (← asAddr (tmps.getD a undef))
noncomputable def resTy (cf : Cfg) (rs : List ResultVar) : Bool := List.rec true (fun r _ ih => match r with
  | .tmp _ => ih
  | .cell _ t => match pos (cf.ty t).sz with
    | true => ih
    | false => false) rs
theorem load_loc (HT : TabOk P cf) (H : SR b env loc h a w C β) {t : TypeId} (hty : pos (cf.ty t).sz = true) {u off : Nat} {cs : List AV} {v : Value} (hx : TRep w C β (.loc u off) v) (hcs : lkp loc u = some cs) {kk : List AV → Prop} {kv : AV → Prop}
    (hk : match (cf.ty t).agg with | true => takeK (cs.drop off) (cf.ty t).sz kk | false => takeK (cs.drop off) 1 fun cs => kv (g cs 0)) :
    ∃ r y, (do loadVar t (← asAddr v) : Sem Value).run P w = .ok r w ∧ ((∃ cs, y = .agg cs ∧ kk cs ∧ (cf.ty t).agg = true) ∨ (kv y ∧ (cf.ty t).agg = false)) ∧ Rep w C y r := by
  obtain ⟨i, z, d, F⟩ := tyCheck_f (HT.2 t hty)
  have hpos := pos_lt hty
  obtain ⟨x0, h1, h2⟩ := hx
  obtain ⟨x1, h3, h4, h5, h6, h7⟩ := H.vars u cs hcs
  rw [h1] at h3; cases h3
  obtain ⟨vs, h8, h9⟩ := h7.cells off
  split at hk
  · rename_i ha
    obtain ⟨h10, h11⟩ := takeK_elim hk
    obtain ⟨r, h12, h13, _⟩ := run_loadVar_f F vs h10 h8 h9
    refine ⟨r, .agg ((cs.drop off).take (cf.ty t).sz), ?_, .inl ⟨_, rfl, h11, ha⟩, (h13 ha).2⟩
    simp [h2, asAddr, h12]
  · rename_i ha
    obtain ⟨h10, h11⟩ := takeK_elim hk
    obtain ⟨r, h12, _, h13⟩ := run_loadVar_f F vs (by rw [F.sz1 ha]; exact h10) h8 h9
    have hg : g ((cs.drop off).take 1) 0 = g (cs.drop off) 0 := by simp [g, List.getD_eq_getElem?_getD, List.getElem?_take]
    rw [hg] at h11
    refine ⟨r, g (cs.drop off) 0, ?_, .inr ⟨h11, ha⟩, h13 ha⟩
    simp [h2, asAddr, h12]
theorem loadG_elim {sz : Nat} {p : AV} {k : List AV → Prop} (hk : loadG sz p h k) : (∃ cs, p = .ro cs ∧ sz ≤ cs.length ∧ k cs) ∨ ∃ id ix off z els, p = .op id ix off ∧ h id = some (.arr z els) ∧ ix < els.length ∧ off + sz ≤ z ∧ k ((els.getD ix []).drop off) := by
  unfold loadG at hk
  split at hk
  · exact .inl ⟨_, rfl, hk⟩
  · split at hk
    · rename_i hh; exact .inr ⟨_, _, _, _, _, rfl, hh, hk⟩
    · exact hk.elim
  · exact hk.elim
theorem loadV_elim {p : AV} {k : AV → Prop} (hk : loadV p h k) : (∃ cs, p = .ro cs ∧ 0 < cs.length ∧ k (g cs 0)) ∨ ∃ id ix off z els, p = .op id ix off ∧ h id = some (.arr z els) ∧ ix < els.length ∧ off < z ∧ k (g (els.getD ix []) off) := by
  unfold loadV at hk
  split at hk
  · exact .inl ⟨_, rfl, hk⟩
  · split at hk
    · rename_i hh; exact .inr ⟨_, _, _, _, _, rfl, hh, hk⟩
    · exact hk.elim
  · exact hk.elim
theorem load_av (HT : TabOk P cf) (H : SR b env loc h a w C β) {t : TypeId} (hty : pos (cf.ty t).sz = true) {p : AV} {v : Value} (hx : Rep w C p v) {kk : List AV → Prop} {kv : AV → Prop}
    (hk : match (cf.ty t).agg with | true => loadG (cf.ty t).sz p h kk | false => loadV p h kv) :
    ∃ r y, (do loadVar t (← asAddr v) : Sem Value).run P w = .ok r w ∧ ((∃ cs, y = .agg (gets cs 0 (cf.ty t).sz) ∧ kk cs ∧ (cf.ty t).agg = true) ∨ (kv y ∧ (cf.ty t).agg = false)) ∧ Rep w C y r := by
  obtain ⟨i, z, d, F⟩ := tyCheck_f (HT.2 t hty)
  have hpos := pos_lt hty
  split at hk
  · rename_i ha
    rcases loadG_elim hk with ⟨cs, rfl, h1, h2⟩ | ⟨id, ix, off, zz, els, rfl, hh, h1, h2, h3⟩
    · cases hx with
      | ro vs him hc hr =>
        obtain ⟨r, h12, h13, _⟩ := run_loadVar_f F vs h1 hc hr
        refine ⟨r, _, ?_, .inl ⟨_, rfl, h2, ha⟩, (h13 ha).1⟩
        simp [asAddr, h12]
    · obtain ⟨ow, h4, h5, h6⟩ := H.ev.rel.own id _ hh
      cases hx with
      | op hm =>
        rw [h4] at hm; cases hm
        obtain ⟨vs, h8, h9⟩ := ARel.cells h6 ix off h1
        obtain ⟨r, h12, h13, _⟩ := run_loadVar_f F vs (by rw [List.length_drop, h6.2.1 ix h1]; omega) h8 h9
        refine ⟨r, _, ?_, .inl ⟨_, rfl, h3, ha⟩, (h13 ha).1⟩
        simp [asAddr, h12]
  · rename_i ha
    rcases loadV_elim hk with ⟨cs, rfl, h1, h2⟩ | ⟨id, ix, off, zz, els, rfl, hh, h1, h2, h3⟩
    · cases hx with
      | ro vs him hc hr =>
        obtain ⟨r, h12, _, h13⟩ := run_loadVar_f F vs (by rw [F.sz1 ha]; omega) hc hr
        refine ⟨r, _, ?_, .inr ⟨h2, ha⟩, h13 ha⟩
        simp [asAddr, h12]
    · obtain ⟨ow, h4, h5, h6⟩ := H.ev.rel.own id _ hh
      cases hx with
      | op hm =>
        rw [h4] at hm; cases hm
        obtain ⟨vs, h8, h9⟩ := ARel.cells h6 ix off h1
        obtain ⟨r, h12, _, h13⟩ := run_loadVar_f F vs (by rw [List.length_drop, h6.2.1 ix h1, F.sz1 ha]; omega) h8 h9
        have := h13 ha
        rw [g_drop, Nat.add_zero] at this
        refine ⟨r, _, ?_, .inr ⟨h3, ha⟩, this⟩
        simp [asAddr, h12]
theorem resK_elim (HT : TabOk P cf) (H : SR b env loc h a w C β) : ∀ {rs : List ResultVar} {k : List AV → Prop}, resTy cf rs = true → resK cf env loc h rs k →
    ∃ vs us, vs.length = rs.length ∧ us.length = rs.length ∧ (rs.mapM (resOne a.tmps)).run P w = .ok us w ∧ (∀ j, j < vs.length → Rep w C (g vs j) (us.getD j undef)) ∧ k vs
  | [], k, hty, hk => ⟨[], [], rfl, rfl, rfl, by simp, hk⟩
  | .tmp t :: rs, k, hty, hk => by
    obtain ⟨v, hv, hk1⟩ := asAV_rep (x := .tmp t) H hk
    obtain ⟨vs, us, h1, h2, h3, h4, h5⟩ := resK_elim HT H (rs := rs) hty hk1
    refine ⟨v :: vs, a.tmps.getD t undef :: us, by simp [h1], by simp [h2], ?_, fun j hj => ?_, h5⟩
    · simp [List.mapM_cons, resOne, h3]
    · cases j with
      | zero => exact hv
      | succ j => exact h4 j (by simpa using hj)
  | .cell t ty :: rs, k, hty, hk => by
    have hty1 : (match pos (cf.ty ty).sz with | true => resTy cf rs | false => false) = true := hty
    split at hty1
    case h_2 => cases hty1
    rename_i hp
    have fin : ∀ {r : Value} {y : AV}, (do loadVar ty (← asAddr (a.tmps.getD t undef)) : Sem Value).run P w = .ok r w → Rep w C y r → resK cf env loc h rs (fun vs => k (y :: vs)) →
        ∃ vs us, vs.length = (ResultVar.cell t ty :: rs).length ∧ us.length = (ResultVar.cell t ty :: rs).length ∧ ((ResultVar.cell t ty :: rs).mapM (resOne a.tmps)).run P w = .ok us w ∧ (∀ j, j < vs.length → Rep w C (g vs j) (us.getD j undef)) ∧ k vs := by
      intro r y hr hrep hk1
      obtain ⟨vs, us, h1, h2, h3, h4, h5⟩ := resK_elim HT H (rs := rs) hty1 hk1
      refine ⟨y :: vs, r :: us, by simp [h1], by simp [h2], ?_, fun j hj => ?_, h5⟩
      · have hr' : (resOne a.tmps (.cell t ty)).run P w = .ok r w := hr
        rw [List.mapM_cons]
        simp [hr', h3]
      · cases j with
        | zero => exact hrep
        | succ j => exact h4 j (by simpa using hj)
    have hx := ev_rep H (.tmp t)
    have hk1 : (match nth env t with
      | .loc u off => match lkp loc u with
        | some cs => match (cf.ty ty).agg with
          | true => takeK (cs.drop off) (cf.ty ty).sz fun cs => resK cf env loc h rs fun vs => k (.agg cs :: vs)
          | false => takeK (cs.drop off) 1 fun cs => resK cf env loc h rs fun vs => k (g cs 0 :: vs)
        | none => FF
      | .av p => match (cf.ty ty).agg with
        | true => loadG (cf.ty ty).sz p h fun cs => resK cf env loc h rs fun vs => k (.agg (gets cs 0 (cf.ty ty).sz) :: vs)
        | false => loadV p h fun v => resK cf env loc h rs fun vs => k (v :: vs)
      | _ => FF) := hk
    split at hk1
    · rename_i u off he
      have hx' : TRep w C β (.loc u off) (a.tmps.getD t undef) := he ▸ hx
      split at hk1
      · rename_i cs hcs
        obtain ⟨r, y, h1, h2, h3⟩ := load_loc HT H hp hx' hcs (kk := fun cs => resK cf env loc h rs fun vs => k (.agg cs :: vs)) (kv := fun v => resK cf env loc h rs fun vs => k (v :: vs)) hk1
        rcases h2 with ⟨cs, rfl, h2, _⟩ | ⟨h2, _⟩
        · exact fin h1 h3 h2
        · exact fin h1 h3 h2
      · exact (show False from hk1).elim
    · rename_i p he
      have hx' : Rep w C p (a.tmps.getD t undef) := by
        have : TRep w C β (.av p) (a.tmps.getD t undef) := he ▸ hx
        exact this
      obtain ⟨r, y, h1, h2, h3⟩ := load_av HT H hp hx' (kk := fun cs => resK cf env loc h rs fun vs => k (.agg (gets cs 0 (cf.ty ty).sz) :: vs)) (kv := fun v => resK cf env loc h rs fun vs => k (v :: vs)) hk1
      rcases h2 with ⟨cs, rfl, h2, _⟩ | ⟨h2, _⟩
      · exact fin h1 h3 h2
      · exact fin h1 h3 h2
    · exact (show False from hk1).elim
theorem deadsK_eq : ∀ (n : Nat) (k : List TV → Prop), deadsK n k = k (List.replicate n .dead)
  | 0, k => rfl
  | n + 1, k => by simp only [deadsK, deadsK_eq n, List.replicate_succ]
theorem envK_eq : ∀ (xs : List AV) (n : Nat) (k : List TV → Prop), envK xs n k = k (xs.map .av ++ List.replicate (n - xs.length) .dead)
  | [], n, k => by simp [envK, deadsK_eq]
  | x :: xs, n, k => by
    simp only [envK, envK_eq xs, List.map_cons, List.cons_append, List.length_cons]
    congr 4
    omega
theorem acalls (HT : TabOk P cf) (hm : P.follows .mixedOrders = true) {f : FuncId} {fn : Func} {c : Code} {args : List AV} {Q : AV → Heap → Prop} (hf : P.funcs[f]? = some fn) (hb : fn.body = some c) (hn : (fn.name == "runtime.NumGoroutine") = false)
    (hr : RegOk P cf c) (hres : resTy cf fn.results.toList = true) (hk : abody P cf fn args h Q) : ACalls P f args h Q := by
  refine ⟨⟨fn, c, hf, hb, hn⟩, fun w C vs HM hsz hrep => ?_⟩
  have hk' : (match fn.body with | some c => envK args fn.ntmps fun env => awp P cf c ⟨none, [], [], false, []⟩ (retQ cf fn.results.toList Q) env [] h | none => FF) := hk
  rw [hb] at hk'
  simp only [envK_eq] at hk'
  have H : SR ⟨w, C, h⟩ (args.map .av ++ List.replicate (fn.ntmps - args.length) .dead) [] h { tmps := vs ++ Array.replicate (fn.ntmps - vs.size) undef, defers := [] } w C (fun _ => none) := by
    refine ⟨rfl, by simp [hsz], fun t ht => ?_, fun t u off he => ?_, Ev.refl HM, fun t cs hcs => (by cases hcs), fun t t' cs cs' x h1 => (by cases h1)⟩
    · by_cases h1 : t < args.length
      · have e1 : nth (args.map TV.av ++ List.replicate (fn.ntmps - args.length) .dead) t = .av (g args t) := by
          rw [nth_eq, getD_app_l (by simpa using h1)]
          simp [List.getD_eq_getElem?_getD, h1, g]
        have e2 : (vs ++ Array.replicate (fn.ntmps - vs.size) undef).getD t undef = vs.getD t undef := by
          simp [Array.getD_eq_getD_getElem?, Array.getElem?_append, show t < vs.size by omega]
        rw [e1, e2]
        exact hrep t h1
      · have e1 : nth (args.map TV.av ++ List.replicate (fn.ntmps - args.length) .dead) t = .dead := by
          rw [nth_eq, getD_app_r (by simp; omega)]
          simp [List.getD_eq_getElem?_getD, List.getElem?_replicate]
          split <;> rfl
        rw [e1]; trivial
    · by_cases h1 : t < args.length
      · have e1 : nth (args.map TV.av ++ List.replicate (fn.ntmps - args.length) .dead) t = .av (g args t) := by
          rw [nth_eq, getD_app_l (by simpa using h1)]
          simp [List.getD_eq_getElem?_getD, h1, g]
        rw [e1] at he; cases he
      · have e1 : nth (args.map TV.av ++ List.replicate (fn.ntmps - args.length) .dead) t = .dead := by
          rw [nth_eq, getD_app_r (by simp; omega)]
          simp [List.getD_eq_getElem?_getD, List.getElem?_replicate]
          split <;> rfl
        rw [e1] at he; cases he
  refine calls_of_wp hf hb (wp_mono (awp_sound HT hm c hr H ⟨fun t u off ht => (by cases ht), fun t ht => (by cases ht)⟩ hk') fun e a w' hp => ?_)
  have fin : ∀ {env' : Env} {loc' : Loc} {h' : Heap} {C' : Cx} {β' : Nat → Option Nat}, SR ⟨w, C, h⟩ env' loc' h' a w' C' β' → resK cf env' loc' h' fn.results.toList (fun vs => retA (retV vs) h' Q) →
      a.defers = [] ∧ ∃ v, (results fn a.tmps).run P w' = .ok v w' ∧ ∃ v' C' h' r, Ending.returned v = .returned v' ∧ Ev w C h w' C' h' ∧ Rep w' C' r v' ∧ Q r h' := by
    intro env' loc' h' C' β' H' hq
    obtain ⟨xs, us, h1, h2, h3, h4, h5⟩ := resK_elim HT H' hres hq
    refine ⟨H'.dfr, ?_⟩
    have hrun : (results fn a.tmps).run P w' = .ok (if h : us.toArray.size = 1 then us.toArray[0] else .tuple us.toArray) w' := by
      have e : results fn a.tmps = (do let vs ← List.toArray <$> fn.results.toList.mapM (resOne a.tmps); pure (if h : vs.size = 1 then vs[0] else .tuple vs)) := by
        unfold results
        rw [← Array.mapM_eq_mapM_toList]
        rfl
      rw [e]
      simp only [Sem.run_bind, Sem.run_map, h3, Result.andThen]
      rfl
    refine ⟨_, hrun, ?_⟩
    obtain ⟨σ', h2', hh, w1, w2, w3⟩ := h5
    have E := HRef.sound H'.ev.rel hh
    have hR := w2 0 (by simp)
    have hl1 : 0 < σ'.length := by rw [w1]; simp
    refine ⟨_, _, h2', _, rfl, H'.ev.trans E, ?_, w3⟩
    refine hR.sound H'.ev.rel ?_
    show Rep w' C' (retV xs) _
    have hxu : xs.length = us.length := by rw [h1, h2]
    by_cases h6 : us.length = 1
    · obtain ⟨x, rfl⟩ := List.length_eq_one_iff.1 (hxu.trans h6)
      obtain ⟨u, rfl⟩ := List.length_eq_one_iff.1 h6
      exact h4 0 (by simp)
    · rw [dif_neg (by simpa using h6)]
      have e : retV xs = .tup xs := by
        unfold retV
        split
        · rename_i v; simp at hxu; omega
        · rfl
      rw [e]
      exact Rep.tup _ (by simp [hxu]) (fun j hj => by
        have := h4 j hj
        simpa [g, Array.getD_eq_getD_getElem?, List.getD_eq_getElem?_getD] using this)
  cases e with
  | normal =>
    obtain ⟨env', loc', h', C', β', H', K', hq⟩ := hp
    exact fin H' hq
  | ret =>
    obtain ⟨env', loc', h', C', β', H', K', hq⟩ := hp
    exact fin H' hq
  | exit i =>
    obtain ⟨env', loc', h', C', β', H', K', hq⟩ := hp
    exact (show False from hq).elim
  | goto l => exact hp.elim
  | panic c => exact hp.elim
  | outgrown => exact hp.elim
end
end Am
set_option linter.unusedVariables false
set_option linter.unusedSimpArgs false
namespace Am
open Go
noncomputable section
def sem (P : Program) (cf : Cfg) (fz : Fz) (o : Oper) (e : Operand → TV) (loc : Loc) (h : Heap) (k : TV → Loc → Heap → Prop) : Prop := match o.op with
  | .move x | .assign x => k (e x) loc h
  | .pick c a b => match e c with
    | .bl true => k (e a) loc h
    | .bl false => k (e b) loc h
    | .av c => brA c (k (e a) loc h) (k (e b) loc h)
    | _ => FF
  | .box t x => cellsK (cf.ty t) (e x) fun cs => match nmem cf.esc (o.dst.getD 0) with
    | true => newA (cf.ty t).sz cs h fun p h => k (.av p) loc h
    | false => FF
  | .alloc t => match nmem cf.esc (o.dst.getD 0) with
    | true => newA (cf.ty t).sz (cf.ty t).zero h fun p h => k (.av p) loc h
    | false => FF
  | .load t x => match e x with
    | .loc v off => match lkp loc v with
      | some cs => match (cf.ty t).agg with
        | true => takeK (cs.drop off) (cf.ty t).sz fun cs => k (.ag cs) loc h
        | false => takeK (cs.drop off) 1 fun cs => k (.av (g cs 0)) loc h
      | none => FF
    | .av p => drK fz cf.own o.dst p (match (cf.ty t).agg with
      | true => loadG (cf.ty t).sz p h fun cs => k (.ag (gets cs 0 (cf.ty t).sz)) loc h
      | false => loadV p h fun v => k (.av v) loc h)
    | _ => FF
  | .store t x v => cellsK (cf.ty t) (e v) fun cs => match e x with
    | .loc u off => match nmem fz.l u with
      | true => FF
      | false => match lkp loc u with
        | some ds => takeK (ds.drop off) (cf.ty t).sz fun _ => spliceK ds off cs fun ds => lsetK loc u ds fun loc => k .dead loc h
        | none => FF
    | .av p => storeG p cs h fun h => k .dead loc h
    | _ => FF
  | .nilCheck x => match e x with
    | .loc t off => k (.loc t off) loc h
    | .av v => nilA v (k (.av v) loc h)
    | _ => FF
  | .fieldAddr t x f => match e x with
    | .loc u off => k (.loc u (off + ((cf.ty t).flds.getD f (0, 0)).1)) loc h
    | .av p => fldA ((cf.ty t).flds.getD f (0, 0)).1 p fun p => k (.av p) loc h
    | _ => FF
  | .indexAddr t x i => asAV (e x) fun x => asAV (e i) fun i => drK fz cf.own o.dst x (idxA (cf.ty (cf.ty t).elem).sz x i h fun p => k (.av p) loc h)
  | .index _ x i => asAV (e x) fun x => asAV (e i) fun i => strA x i fun v => k (.av v) loc h
  | .binOp op t x y _ => asAV (e x) fun x => asAV (e y) fun y => match (cf.ty t).agg, op with
    | true, .eql => eqA (cf.ty t).eq false x y fun v => k (.av v) loc h
    | true, .neq => eqA (cf.ty t).eq true x y fun v => k (.av v) loc h
    | true, _ => FF
    | false, op => match (cf.ty t).kd, op with
      | .bool, .eql => eqbA false x y fun v => k (.av v) loc h
      | .bool, .neq => eqbA true x y fun v => k (.av v) loc h
      | .bool, _ => FF
      | _, op => binA op x y fun v => k (.av v) loc h
  | .unOp .not _ x => asAV (e x) fun x => notA x fun v => k (.av v) loc h
  | .extract x i => asAV (e x) fun x => tupA x i fun v => k (.av v) loc h
  | .build t parts => buildK cf e (cf.ty t) parts.toList (cf.ty t).zero fun cs => takeK cs (cf.ty t).sz fun cs => k (.ag cs) loc h
  | .buildSlice t n parts => match Nat.beq n parts.size with
    | true => match n with
      | 0 => k (.av .e0) loc h
      | _ => cellsKs (cf.ty (cf.ty t).elem) (parts.toList.map fun p => e p.2) fun els => k (.av (.rs (cf.ty (cf.ty t).elem).sz els)) loc h
    | false => FF
  | .makeSlice t n c => asAV (e n) fun n => asAV (e c) fun c => mkA (cf.ty (cf.ty t).elem).sz (cf.ty (cf.ty t).elem).bytes (cf.ty (cf.ty t).elem).zero n c h fun v h => k (.av v) loc h
  | .slice t x lo hi mx => match mx with
    | none => asAV (e x) fun x => optK e lo fun lo => optK e hi fun hi => sliceA (cf.ty (cf.ty t).elem).sz x lo hi fun v => k (.av v) loc h
    | some mx => match lo, hi with
      | none, some hi => asAV (e x) fun x => asAV (e hi) fun hi => asAV (e mx) fun mx => sl3A (cf.ty (cf.ty t).elem).sz x hi mx fun v => k (.av v) loc h
      | _, _ => FF
  | .convert _ t x => match (cf.ty t).kd with
    | .int kd => asAV (e x) fun x => convA kd x fun v => k (.av v) loc h
    | _ => FF
  | .makeMap _ r => match r with
    | none => newM h fun v h => k (.av v) loc h
    | some _ => FF
  | .lookup t m x ok => match (cf.ty t).kd with
    | .map kt et => asAV (e m) fun m => cellsK (cf.ty kt) (e x) fun cs => lookA (ksOf (cf.ty kt)) ok (unc (cf.ty et).agg (cf.ty et).zero) m (unc (cf.ty kt).agg cs) h fun v => k (.av v) loc h
    | _ => FF
  | .mapUpdate t m x v => match (cf.ty t).kd with
    | .map kt et => asAV (e m) fun m => cellsK (cf.ty kt) (e x) fun cs => cellsK (cf.ty et) (e v) fun vs => updA (ksOf (cf.ty kt)) m (unc (cf.ty kt).agg cs) (unc (cf.ty et).agg vs) h fun h => k .dead loc h
    | _ => FF
  | .mapEntry t m x => match (cf.ty t).kd with
    | .map kt et => asAV (e m) fun m => cellsK (cf.ty kt) (e x) fun cs => entA (ksOf (cf.ty kt)) (unc (cf.ty et).agg (cf.ty et).zero) m (unc (cf.ty kt).agg cs) h fun v h => k (.av v) loc h
    | _ => FF
  | .entryStore t m i v => match (cf.ty t).kd with
    | .map kt et => asAV (e m) fun m => asAV (e i) fun i => cellsK (cf.ty et) (e v) fun vs => entS m i (unc (cf.ty et).agg vs) h fun h => k .dead loc h
    | _ => FF
  | .range t m => match (cf.ty t).kd with
    | .map _ _ => asAV (e m) fun m => rangeA m h fun v h => k (.av v) loc h
    | _ => FF
  | .next it str => match str with
    | false => asAV (e it) fun it => nextA it h fun v h => k (.av v) loc h
    | true => FF
  | .entry it => asAV (e it) fun it => entryA it h fun v => k (.av v) loc h
  | .makeFunc (.func f) first caps => match first.size with
    | 0 => asAVs (caps.toList.map e) fun caps => k (.av (.fn f caps)) loc h
    | _ => FF
  | .call { callee := .builtin .len, args, argTypes } => match args.toList, argTypes.toList with
    | [x], [t] => match (cf.ty t).kd with
      | .str => asAV (e x) fun x => lenS x fun v => k (.av v) loc h
      | .map _ _ => asAV (e x) fun x => lenM x h fun v => k (.av v) loc h
      | .other => asAV (e x) fun x => lenA x fun v => k (.av v) loc h
      | _ => FF
    | _, _ => FF
  | .call { callee := .builtin .append, args, argTypes } => match args.toList, argTypes.toList with
    | [x, y], [t, u] => match Nat.beq t u with
      | true => asAV (e x) fun x => asAV (e y) fun y => appA (cf.ty (cf.ty t).elem).sz (cf.ty (cf.ty t).elem).bytes x y h fun v h => k (.av v) loc h
      | false => FF
    | _, _ => FF
  | .call { callee := .builtin .max, args, .. } => match args.toList with
    | [x, y] => asAV (e x) fun x => asAV (e y) fun y => maxA x y fun v => k (.av v) loc h
    | _ => FF
  | .call { callee := .builtin .min, args, .. } => match args.toList with
    | [x, y] => asAV (e x) fun x => asAV (e y) fun y => minA x y fun v => k (.av v) loc h
    | _ => FF
  | .call { callee := .value (.func f), args, .. } => asAVs (args.toList.map e) fun args => callS P f args h fun r h => k (.av r) loc h
  | .call { callee := .value (.tmp t), args, .. } => asAV (e (.tmp t)) fun f => asAVs (args.toList.map e) fun args => callV P f args h fun r h => k (.av r) loc h
  | _ => FF
def isL (cf : Cfg) (o : Oper) : Bool := match o.op with
  | .box _ _ | .alloc _ => !nmem cf.esc (o.dst.getD 0)
  | _ => false
end
section
variable {P : Program} {cf : Cfg} {fz : Fz} {env : Env} {loc : Loc} {h : Heap} {k : K} {o : Oper}
theorem aop_sem (hl : isL cf o = false) : aop P cf fz o env loc h k = sem P cf fz o (ev env) loc h fun y loc h => putK fz env o.dst y fun env => k env loc h := by
  unfold aop sem
  cases hop : o.op with
  | box t x =>
    have : nmem cf.esc (o.dst.getD 0) = true := by simpa [isL, hop] using hl
    simp only [this]
  | alloc t =>
    have : nmem cf.esc (o.dst.getD 0) = true := by simpa [isL, hop] using hl
    simp only [this]
  | unOp op t x => cases op <;> rfl
  | makeFunc f first caps => cases f <;> rfl
  | call c =>
    obtain ⟨callee, args, ts⟩ := c
    cases callee with
    | value x => cases x <;> rfl
    | builtin bi => cases bi <;> rfl
    | invoke r n => rfl
  | _ => rfl
end
end Am
set_option linter.unusedVariables false
set_option linter.unusedSimpArgs false
namespace Am
open Go
section
variable {P : Program} {cf : Cfg} {fz : Fz} {env : Env} {loc : Loc} {h : Heap} {o : Oper}
def Det {α : Type} (W : (α → Prop) → Prop) : Prop := ∀ k, W k → ∃ v, k v ∧ ∀ k2 : α → Prop, k2 v → W k2
theorem Det.pure {α : Type} {v : α} : Det (fun k : α → Prop => k v) := fun k h => ⟨v, h, fun _ h => h⟩
theorem Det.ff {α : Type} : Det (fun _ : α → Prop => FF) := fun k h => (show False from h).elim
theorem Det.f {α : Type} : Det (fun _ : α → Prop => False) := fun k h => h.elim
theorem Det.bind {α γ : Type} {W : (α → Prop) → Prop} {V : α → (γ → Prop) → Prop} (hw : Det W) (hv : ∀ v, Det (V v)) : Det (fun k => W fun v => V v k) := fun k h => by
  obtain ⟨v, h1, h2⟩ := hw _ h
  obtain ⟨y, h3, h4⟩ := hv v k h1
  exact ⟨y, h3, fun k2 hk => h2 _ (h4 k2 hk)⟩
theorem Det.mono {α : Type} {W : (α → Prop) → Prop} (hw : Det W) {k k' : α → Prop} (hi : ∀ v, k v → k' v) (h : W k) : W k' := by
  obtain ⟨v, h1, h2⟩ := hw _ h
  exact h2 _ (hi v h1)
theorem Det.and {α : Type} {p : Prop} {W : (α → Prop) → Prop} (hw : Det W) : Det (fun k => p ∧ W k) := fun k h => by
  obtain ⟨v, h1, h2⟩ := hw _ h.2
  exact ⟨v, h1, fun k2 hk => ⟨h.1, h2 _ hk⟩⟩
theorem asAV_det {x : TV} : Det (asAV x) := by
  cases x <;> first | exact Det.pure | exact Det.ff
theorem asAVs_det : ∀ {xs : List TV}, Det (asAVs xs)
  | [] => Det.pure
  | x :: xs => show Det (fun k => asAV x fun v => asAVs xs fun vs => k (v :: vs)) from Det.bind asAV_det fun v => Det.bind asAVs_det fun vs => Det.pure
theorem brA_det {α : Type} {c : AV} {W V : (α → Prop) → Prop} (hw : Det W) (hv : Det V) : Det (fun k => brA c (W k) (V k)) := by
  intro k h
  unfold brA at h
  split at h
  · rename_i b
    cases b
    · obtain ⟨v, h1, h2⟩ := hv _ (h.2 rfl)
      exact ⟨v, h1, fun k2 hk => ⟨fun e => (by cases e), fun _ => h2 _ hk⟩⟩
    · obtain ⟨v, h1, h2⟩ := hw _ (h.1 rfl)
      exact ⟨v, h1, fun k2 hk => ⟨fun _ => h2 _ hk, fun e => (by cases e)⟩⟩
  · exact h.elim
theorem takeK_det {α : Type} : ∀ {l : List α} {n : Nat}, Det (takeK l n)
  | l, 0 => by cases l <;> exact Det.pure
  | x :: xs, n + 1 => show Det (fun k => takeK xs n fun ys => k (x :: ys)) from Det.bind (takeK_det (l := xs) (n := n)) fun ys => Det.pure
  | [], n + 1 => Det.ff
theorem exactK_det {α : Type} : ∀ {l : List α} {n : Nat}, Det (exactK l n)
  | [], 0 => Det.pure
  | x :: xs, n + 1 => show Det (fun k => exactK xs n fun ys => k (x :: ys)) from Det.bind (exactK_det (l := xs) (n := n)) fun ys => Det.pure
  | [], n + 1 => Det.ff
  | _ :: _, 0 => Det.ff
theorem aggA_det {sz : Nat} {v : AV} : Det (aggA sz v) := by
  cases v <;> first | exact Det.and Det.pure | exact Det.f
theorem oneA_det {α : Type} {x : AV} {W : (α → Prop) → Prop} (hw : Det W) : Det (fun k => oneA x (W k)) := by
  cases x <;> first | exact hw | exact Det.f
theorem nilA_det {α : Type} {x : AV} {W : (α → Prop) → Prop} (hw : Det W) : Det (fun k => nilA x (W k)) := by
  cases x <;> first | exact hw | exact Det.f
theorem fixA_det {α : Type} {x : AV} {W : (α → Prop) → Prop} (hw : Det W) : Det (fun k => fixA x (W k)) := by
  cases x <;> first | exact hw | exact Det.f
theorem drK_det {α : Type} {own : List Nat} {dst : Option Tmp} {x : AV} {W : (α → Prop) → Prop} (hw : Det W) : Det (fun k => drK fz own dst x (W k)) := by
  unfold drK
  cases fz.d
  · exact hw
  · cases nmem own (dst.getD 0)
    · exact fixA_det hw
    · exact hw
theorem cellsK_det {ti : TyI} {x : TV} : Det (cellsK ti x) := by
  unfold cellsK
  cases ti.agg
  · cases x <;> first | exact Det.pure | exact Det.ff | exact oneA_det Det.pure
  · cases x <;> first | exact exactK_det | exact Det.ff | exact Det.bind aggA_det fun cs => Det.pure
theorem cellsKs_det {ti : TyI} : ∀ {xs : List TV}, Det (cellsKs ti xs)
  | [] => Det.pure
  | x :: xs => show Det (fun k => cellsK ti x fun c => cellsKs ti xs fun cs => k (c :: cs)) from Det.bind cellsK_det fun c => Det.bind cellsKs_det fun cs => Det.pure
theorem spliceK_det {cs : List AV} {off : Nat} {xs : List AV} : Det (spliceK cs off xs) := by
  have : spliceK cs off xs = fun k => k (splice cs off xs) := funext fun k => spliceK_eq _ _ _ _
  rw [this]; exact Det.pure
theorem buildK_det {e : Operand → TV} {ti : TyI} : ∀ {l : List (Nat × Operand)} {cs : List AV}, Det (buildK cf e ti l cs)
  | [], cs => Det.pure
  | (i, x) :: rest, cs => show Det (fun k => cellsK (cf.ty (ti.flds.getD i (0, 0)).2) (e x) fun ds => spliceK cs (ti.flds.getD i (0, 0)).1 ds fun cs => buildK cf e ti rest cs k) from Det.bind cellsK_det fun ds => Det.bind spliceK_det fun cs => buildK_det
theorem optK_det {e : Operand → TV} : ∀ {x : Option Operand}, Det (optK e x)
  | none => Det.pure
  | some x => show Det (fun k => asAV (e x) fun v => k (some v)) from Det.bind asAV_det fun v => Det.pure
theorem loadV_det {p : AV} : Det (loadV p h) := by
  cases p <;> first | exact Det.f | exact Det.and Det.pure | skip
  rename_i id ix off
  unfold loadV
  simp only
  cases h id with
  | none => exact Det.f
  | some n => cases n <;> first | exact Det.f | exact Det.and (Det.and Det.pure)
theorem loadG_det {sz : Nat} {p : AV} : Det (loadG sz p h) := by
  cases p <;> first | exact Det.f | exact Det.and Det.pure | skip
  rename_i id ix off
  unfold loadG
  simp only
  cases h id with
  | none => exact Det.f
  | some n => cases n <;> first | exact Det.f | exact Det.and (Det.and Det.pure)
theorem fldA_det {off : Nat} {p : AV} : Det (fldA off p) := by
  cases p <;> first | exact Det.f | exact Det.pure
theorem idxA_det {es : Nat} {x i : AV} : Det (idxA es x i h) := by
  unfold idxA
  split
  · split
    · exact Det.and (Det.and (Det.and Det.pure))
    · split
      · exact Det.and (Det.and (Det.and (Det.and Det.pure)))
      · exact Det.f
    · exact Det.f
  · exact Det.f
theorem strA_det {x i : AV} : Det (strA x i) := by
  unfold strA
  split
  · exact Det.and (Det.and Det.pure)
  · exact Det.f
theorem eqbA_det {n : Bool} {x y : AV} : Det (eqbA n x y) := by
  unfold eqbA
  split
  · exact Det.pure
  · exact Det.f
theorem binA_det {op : BinOp} {x y : AV} : Det (binA op x y) := by
  unfold binA
  split
  · exact Det.pure
  · exact Det.f
theorem notA_det {x : AV} : Det (notA x) := by
  unfold notA
  split
  · exact Det.pure
  · exact Det.f
theorem tupA_det {x : AV} {i : Nat} : Det (tupA x i) := by
  unfold tupA
  split
  · exact Det.and Det.pure
  · exact Det.f
theorem maxA_det {x y : AV} : Det (maxA x y) := by
  unfold maxA
  split
  · exact Det.pure
  · exact Det.f
theorem minA_det {x y : AV} : Det (minA x y) := by
  unfold minA
  split
  · exact Det.pure
  · exact Det.f
theorem lenA_det {x : AV} : Det (lenA x) := by
  unfold lenA
  split <;> first | exact Det.pure | exact Det.f
theorem lenS_det {x : AV} : Det (lenS x) := by
  unfold lenS
  split <;> first | exact Det.pure | exact Det.f
theorem lenM_det {x : AV} : Det (lenM x h) := by
  unfold lenM
  split
  · split <;> first | exact Det.pure | exact Det.f
  · exact Det.f
theorem sliceA_det {es : Nat} {x : AV} {lo hi : Option AV} : Det (sliceA es x lo hi) := by
  unfold sliceA
  split
  · refine Det.and (Det.and ?_)
    split <;> first | exact Det.and (Det.and Det.pure) | exact Det.and (Det.and (Det.and Det.pure)) | exact Det.f
  · refine Det.and ?_
    split <;> first | exact Det.and (Det.and Det.pure) | exact Det.f
  · split <;> first | exact Det.and (Det.and Det.pure) | exact Det.f
  · refine Det.and ?_
    split <;> first | exact Det.and (Det.and Det.pure) | exact Det.and (Det.and (Det.and Det.pure)) | exact Det.f
  · exact Det.f
theorem eqA_det {ks : List TK} {n : Bool} {x y : AV} : Det (eqA ks n x y) := by
  unfold eqA
  split
  · refine Det.and (Det.and ?_)
    split
    · exact Det.pure
    · exact Det.f
  · exact Det.f
theorem sl3A_det {es : Nat} {x hi mx : AV} : Det (sl3A es x hi mx) := by
  unfold sl3A
  split
  · exact Det.and (Det.and (Det.and (Det.and (Det.and Det.pure))))
  · exact Det.f
theorem convA_det {kd : IntKind} {x : AV} : Det (convA kd x) := by
  unfold convA
  split
  · exact Det.pure
  · exact Det.f
end
end Am
set_option linter.unusedVariables false
set_option linter.unusedSimpArgs false
namespace Am
open Go
section
variable {P : Program} {cf : Cfg} {fz : Fz} {env : Env} {loc : Loc} {h : Heap} {o : Oper} {e : Operand → TV}
def like (cf : Cfg) (o : Oper) : Bool := match o.op with
  | .move _ | .assign _ | .pick _ _ _ | .fieldAddr _ _ _ | .nilCheck _ | .index _ _ _ | .binOp _ _ _ _ _ | .unOp _ _ _ | .extract _ _ | .build _ _ | .buildSlice _ _ _ | .slice _ _ _ _ _ | .makeFunc _ _ _ | .convert _ _ _ => true
  | .load _ _ | .indexAddr _ _ _ => true
  | .call { callee := .builtin .len, argTypes, .. } => match argTypes.toList with
    | [t] => match (cf.ty t).kd with
      | .map _ _ => false
      | _ => true
    | _ => true
  | .call { callee := .builtin .max, .. } | .call { callee := .builtin .min, .. } => true
  | _ => false
def reads (o : Oper) : Bool := match o.op with
  | .load _ _ | .indexAddr _ _ _ => true
  | _ => false
theorem sem_like (hl : like cf o = true) {K : TV → Loc → Heap → Prop} : sem P cf fz o e loc h K = sem P cf fz o e loc h fun y _ _ => K y loc h := by
  unfold like at hl
  unfold sem
  cases hop : o.op with
  | unOp op t x => cases op <;> rfl
  | makeFunc f first caps => cases f <;> rfl
  | call c =>
    obtain ⟨callee, args, ts⟩ := c
    rw [hop] at hl
    cases callee with
    | value x => cases hl
    | builtin bi => cases bi <;> first | (cases hl; done) | rfl
    | invoke r n => cases hl
  | _ => (rw [hop] at hl) <;> first | rfl | (cases hl; done)
theorem sem_det (hl : like cf o = true) : Det (fun k => sem P cf fz o e loc h fun y _ _ => k y) := by
  unfold like at hl
  unfold sem
  cases hop : o.op with
  | move x => exact Det.pure
  | assign x => exact Det.pure
  | pick c a b =>
    simp only
    cases e c with
    | bl b => cases b <;> exact Det.pure
    | av c => exact brA_det Det.pure Det.pure
    | _ => exact Det.ff
  | fieldAddr t x f =>
    simp only
    cases e x with
    | loc u off => exact Det.pure
    | av p => exact Det.bind fldA_det fun p => Det.pure
    | _ => exact Det.ff
  | nilCheck x =>
    simp only
    cases e x with
    | loc u off => exact Det.pure
    | av p => exact nilA_det Det.pure
    | _ => exact Det.ff
  | index t x i => exact Det.bind asAV_det fun x => Det.bind asAV_det fun i => Det.bind strA_det fun v => Det.pure
  | binOp op t x y u =>
    refine Det.bind asAV_det fun x => Det.bind asAV_det fun y => ?_
    cases (cf.ty t).agg with
    | true => cases op <;> first | exact Det.ff | exact Det.bind eqA_det fun v => Det.pure
    | false =>
      simp only
      cases (cf.ty t).kd with
      | bool => cases op <;> first | exact Det.ff | exact Det.bind eqbA_det fun v => Det.pure
      | _ => exact Det.bind binA_det fun v => Det.pure
  | unOp op t x => cases op <;> first | exact Det.ff | exact Det.bind asAV_det fun x => Det.bind notA_det fun v => Det.pure
  | extract x i => exact Det.bind asAV_det fun x => Det.bind tupA_det fun v => Det.pure
  | build t parts => exact Det.bind buildK_det fun cs => Det.bind takeK_det fun cs => Det.pure
  | buildSlice t n parts =>
    simp only
    cases Nat.beq n parts.size with
    | false => exact Det.ff
    | true => cases n <;> first | exact Det.pure | exact Det.bind cellsKs_det fun v => Det.pure
  | slice t x lo hi mx =>
    cases mx with
    | some m =>
      simp only
      split
      · exact Det.bind asAV_det fun x => Det.bind asAV_det fun hi => Det.bind asAV_det fun mx => Det.bind sl3A_det fun v => Det.pure
      · exact Det.ff
    | none => exact Det.bind asAV_det fun x => Det.bind optK_det fun lo => Det.bind optK_det fun hi => Det.bind sliceA_det fun v => Det.pure
  | convert s t x =>
    simp only
    split
    · exact Det.bind asAV_det fun x => Det.bind convA_det fun v => Det.pure
    · exact Det.ff
  | makeFunc f first caps =>
    cases f with
    | func f =>
      simp only
      cases first.size with
      | zero => exact Det.bind asAVs_det fun v => Det.pure
      | succ n => exact Det.ff
    | _ => exact Det.ff
  | load t x =>
    simp only
    cases e x with
    | loc u off =>
      simp only
      cases lkp loc u with
      | none => exact Det.ff
      | some cs => simp only; cases (cf.ty t).agg <;> exact Det.bind takeK_det fun cs => Det.pure
    | av p =>
      refine drK_det ?_
      cases (cf.ty t).agg
      · exact Det.bind loadV_det fun v => Det.pure
      · exact Det.bind loadG_det fun v => Det.pure
    | _ => exact Det.ff
  | indexAddr t x i => exact Det.bind asAV_det fun x => Det.bind asAV_det fun i => drK_det (Det.bind idxA_det fun p => Det.pure)
  | call c =>
    obtain ⟨callee, args, ts⟩ := c
    rw [hop] at hl
    cases callee with
    | value x => cases hl
    | invoke r n => cases hl
    | builtin bi =>
      cases bi <;> first | (cases hl; done) | skip
      · simp only
        split
        · split
          · exact Det.bind asAV_det fun x => Det.bind lenS_det fun v => Det.pure
          · exact Det.bind asAV_det fun x => Det.bind lenM_det fun v => Det.pure
          · exact Det.bind asAV_det fun x => Det.bind lenA_det fun v => Det.pure
          · exact Det.ff
        · exact Det.ff
      · simp only
        split
        · exact Det.bind asAV_det fun x => Det.bind asAV_det fun y => Det.bind maxA_det fun v => Det.pure
        · exact Det.ff
      · simp only
        split
        · exact Det.bind asAV_det fun x => Det.bind asAV_det fun y => Det.bind minA_det fun v => Det.pure
        · exact Det.ff
  | _ => (rw [hop] at hl) <;> cases hl
theorem newA_mono {sz : Nat} {cs : List AV} {k k' : AV → Heap → Prop} (hi : ∀ v h, k v h → k' v h) (hk : newA sz cs h k) : newA sz cs h k' := fun id hid => hi _ _ (hk id hid)
theorem storeG_mono {p : AV} {cs : List AV} {k k' : Heap → Prop} (hi : ∀ h, k h → k' h) (hk : storeG p cs h k) : storeG p cs h k' := by
  unfold storeG at hk ⊢
  split at hk
  · split at hk
    · exact ⟨hk.1, hk.2.1, hi _ hk.2.2⟩
    · exact hk.elim
  · exact hk.elim
theorem mkA_mono {sz bytes : Nat} {zero : List AV} {n c : AV} {k k' : AV → Heap → Prop} (hi : ∀ v h, k v h → k' v h) (hk : mkA sz bytes zero n c h k) : mkA sz bytes zero n c h k' := by
  unfold mkA at hk ⊢
  split at hk
  · exact ⟨hk.1, hk.2.1, hk.2.2.1, fun id hid => hi _ _ (hk.2.2.2 id hid)⟩
  · exact hk.elim
theorem srcA_mono {sz : Nat} {y : AV} {k k' : List (List AV) → Prop} (hi : ∀ v, k v → k' v) (hk : srcA sz y h k) : srcA sz y h k' := by
  unfold srcA at hk ⊢
  split at hk
  · exact ⟨hk.1, hi _ hk.2⟩
  · split at hk
    · exact ⟨hk.1, hk.2.1, hi _ hk.2.2⟩
    · exact hk.elim
  · exact hi _ hk
  · exact hk.elim
theorem appA_mono {sz bytes : Nat} {x y : AV} {k k' : AV → Heap → Prop} (hi : ∀ v h, k v h → k' v h) (hk : appA sz bytes x y h k) : appA sz bytes x y h k' := by
  refine srcA_mono (fun ys hy => ?_) hk
  split at hy
  · exact ⟨hy.1, fun e => hi _ _ (hy.2.1 e), fun e id hid => hi _ _ (hy.2.2 e id hid)⟩
  · split at hy
    · exact ⟨hy.1, hy.2.1, hy.2.2.1, fun id hid => hi _ _ (hy.2.2.2 id hid)⟩
    · exact hy.elim
  · exact hy.elim
theorem newM_mono {k k' : AV → Heap → Prop} (hi : ∀ v h, k v h → k' v h) (hk : newM h k) : newM h k' := fun id hid => hi _ _ (hk id hid)
theorem mapA_mono {ks : List TK} {m key : AV} {k k' : Nat → List (AV × AV) → Option Nat → Prop} (hi : ∀ i e r, k i e r → k' i e r) (hk : mapA ks m key h k) : mapA ks m key h k' := by
  unfold mapA at hk ⊢
  split at hk
  · split at hk
    · split at hk
      · exact hi _ _ _ hk
      · exact hk
    · exact hk
  · exact hk
theorem lookA_mono {ks : List TK} {ok : Bool} {z m key : AV} {k k' : AV → Prop} (hi : ∀ v, k v → k' v) (hk : lookA ks ok z m key h k) : lookA ks ok z m key h k' := mapA_mono (fun i e r hk => by cases r <;> exact hi _ hk) hk
theorem updA_mono {ks : List TK} {m key v : AV} {k k' : Heap → Prop} (hi : ∀ h, k h → k' h) (hk : updA ks m key v h k) : updA ks m key v h k' := mapA_mono (fun i e r hk => by cases r <;> exact hi _ hk) hk
theorem entA_mono {ks : List TK} {z m key : AV} {k k' : AV → Heap → Prop} (hi : ∀ v h, k v h → k' v h) (hk : entA ks z m key h k) : entA ks z m key h k' := mapA_mono (fun i e r hk => by cases r <;> exact hi _ _ hk) hk
theorem entS_mono {m i v : AV} {k k' : Heap → Prop} (hi : ∀ h, k h → k' h) (hk : entS m i v h k) : entS m i v h k' := by
  unfold entS at hk ⊢
  split at hk
  · split at hk
    · exact ⟨hk.1, hk.2.1, hi _ hk.2.2⟩
    · exact hk
  · exact hk
theorem rangeA_mono {m : AV} {k k' : AV → Heap → Prop} (hi : ∀ v h, k v h → k' v h) (hk : rangeA m h k) : rangeA m h k' := by
  unfold rangeA at hk ⊢
  split at hk
  · split at hk
    · exact fun it hit => hi _ _ (hk it hit)
    · exact hk
  · exact hk
theorem iterA_mono {it : AV} {k k' : Nat → Nat → Nat → List (AV × AV) → List Nat → Option Nat → Prop} (hi : ∀ a b c d e f, k a b c d e f → k' a b c d e f) (hk : iterA it h k) : iterA it h k' := by
  unfold iterA at hk ⊢
  split at hk
  · split at hk
    · split at hk
      · exact ⟨hk.1, hi _ _ _ _ _ _ hk.2⟩
      · exact hk
    · exact hk
  · exact hk
theorem nextA_mono {it : AV} {k k' : AV → Heap → Prop} (hi : ∀ v h, k v h → k' v h) (hk : nextA it h k) : nextA it h k' := iterA_mono (fun a b c d e f hk => ⟨fun x => hi _ _ (hk.1 x), fun i hi' => hi _ _ (hk.2 i hi')⟩) hk
theorem entryA_mono {it : AV} {k k' : AV → Prop} (hi : ∀ v, k v → k' v) (hk : entryA it h k) : entryA it h k' := iterA_mono (fun a b c d e f hk => by cases f <;> first | exact hi _ hk | exact hk) hk
theorem ACalls.mono {f : FuncId} {args : List AV} {k k' : AV → Heap → Prop} (hi : ∀ v h, k v h → k' v h) (hk : ACalls P f args h k) : ACalls P f args h k' :=
  ⟨hk.1, fun w C vs H hs hr => (hk.2 w C vs H hs hr).mono fun e w' ⟨v, C', h', r, h1, h2, h3, h4⟩ => ⟨v, C', h', r, h1, h2, h3, hi _ _ h4⟩⟩
theorem callS_mono {f : FuncId} {args : List AV} {k k' : AV → Heap → Prop} (hi : ∀ v h, k v h → k' v h) (hk : callS P f args h k) : callS P f args h k' := by
  obtain ⟨σ, h', h1, h2, h3, h4⟩ := hk
  exact ⟨σ, h', h1, h2, h3, h4.mono hi⟩
theorem callV_mono {f : AV} {args : List AV} {k k' : AV → Heap → Prop} (hi : ∀ v h, k v h → k' v h) (hk : callV P f args h k) : callV P f args h k' := by
  unfold callV at hk ⊢
  split at hk
  · exact callS_mono hi hk
  · exact hk.elim
theorem sem_mono {K K' : TV → Loc → Heap → Prop} (hi : ∀ y loc h, K y loc h → K' y loc h) (hk : sem P cf fz o e loc h K) : sem P cf fz o e loc h K' := by
  by_cases hl : like cf o = true
  · rw [sem_like hl] at hk ⊢
    exact (sem_det hl).mono (fun v => hi v loc h) hk
  · unfold like at hl
    unfold sem at hk ⊢
    cases hop : o.op with
    | box t x =>
      rw [hop] at hk
      refine cellsK_det.mono (fun cs hk => ?_) hk
      split at hk
      · exact newA_mono (fun v h => hi _ _ _) hk
      · exact hk
    | alloc t =>
      rw [hop] at hk
      simp only at hk ⊢
      split at hk
      · exact newA_mono (fun v h => hi _ _ _) hk
      · exact hk
    | store t x v =>
      rw [hop] at hk
      refine cellsK_det.mono (fun cs hk => ?_) hk
      split at hk
      · split at hk
        · exact hk
        · split at hk
          · refine takeK_det.mono (fun _ hk => ?_) hk
            rw [spliceK_eq, lsetK_eq] at hk ⊢
            exact hi _ _ _ hk
          · exact hk
      · exact storeG_mono (fun h => hi _ _ _) hk
      · exact hk
    | makeMap t r =>
      rw [hop] at hk
      cases r <;> first | exact newM_mono (fun v h => hi _ _ _) hk | exact hk
    | lookup t m x ok =>
      rw [hop] at hk
      simp only at hk ⊢
      split at hk
      · exact asAV_det.mono (fun m hk => cellsK_det.mono (fun cs hk => lookA_mono (fun v => hi _ _ _) hk) hk) hk
      · exact hk
    | mapUpdate t m x v =>
      rw [hop] at hk
      simp only at hk ⊢
      split at hk
      · exact asAV_det.mono (fun m hk => cellsK_det.mono (fun cs hk => cellsK_det.mono (fun vs hk => updA_mono (fun h => hi _ _ _) hk) hk) hk) hk
      · exact hk
    | mapEntry t m x =>
      rw [hop] at hk
      simp only at hk ⊢
      split at hk
      · exact asAV_det.mono (fun m hk => cellsK_det.mono (fun cs hk => entA_mono (fun v h => hi _ _ _) hk) hk) hk
      · exact hk
    | entryStore t m i v =>
      rw [hop] at hk
      simp only at hk ⊢
      split at hk
      · exact asAV_det.mono (fun m hk => asAV_det.mono (fun i hk => cellsK_det.mono (fun vs hk => entS_mono (fun h => hi _ _ _) hk) hk) hk) hk
      · exact hk
    | range t m =>
      rw [hop] at hk
      simp only at hk ⊢
      split at hk
      · exact asAV_det.mono (fun m hk => rangeA_mono (fun v h => hi _ _ _) hk) hk
      · exact hk
    | next it str =>
      rw [hop] at hk
      cases str <;> first | exact asAV_det.mono (fun m hk => nextA_mono (fun v h => hi _ _ _) hk) hk | exact hk
    | entry it =>
      rw [hop] at hk
      exact asAV_det.mono (fun m hk => entryA_mono (fun v => hi _ _ _) hk) hk
    | makeSlice t n c =>
      rw [hop] at hk
      exact asAV_det.mono (fun n hk => asAV_det.mono (fun c hk => mkA_mono (fun v h => hi _ _ _) hk) hk) hk
    | call c =>
      obtain ⟨callee, args, ts⟩ := c
      rw [hop] at hl hk
      cases callee with
      | value x =>
        cases x with
        | func f => exact asAVs_det.mono (fun vs hk => callS_mono (fun v h => hi _ _ _) hk) hk
        | tmp t => exact asAV_det.mono (fun f hk => asAVs_det.mono (fun vs hk => callV_mono (fun v h => hi _ _ _) hk) hk) hk
        | _ => exact hk
      | invoke r n => exact hk
      | builtin bi =>
        cases bi <;> first | exact hk | (exact (hl rfl).elim) | skip
        · simp only at hk ⊢
          split at hk
          · split at hk
            · exact asAV_det.mono (fun n hk => asAV_det.mono (fun c hk => appA_mono (fun v h => hi _ _ _) hk) hk) hk
            · exact hk
          · exact hk
        · simp only at hk ⊢
          split at hk
          · split at hk
            · exact asAV_det.mono (fun x hk => lenS_det.mono (fun v => hi _ _ _) hk) hk
            · exact asAV_det.mono (fun x hk => lenM_det.mono (fun v => hi _ _ _) hk) hk
            · exact asAV_det.mono (fun x hk => lenA_det.mono (fun v => hi _ _ _) hk) hk
            · exact hk
          · exact hk
    | _ => rw [hop] at hl hk; first | exact hk | exact (hl rfl).elim
end
end Am
set_option linter.unusedVariables false
set_option linter.unusedSimpArgs false
namespace Am
open Go
section
variable {P : Program} {cf : Cfg} {fz : Fz} {env : Env} {loc : Loc} {h : Heap} {o : Oper} {e e' : Operand → TV}
def opnds (o : Oper) : List Operand := match o.op with
  | .move x | .assign x | .box _ x | .load _ x | .nilCheck x | .fieldAddr _ x _ | .unOp _ _ x | .extract x _ | .convert _ _ x | .range _ x | .next x _ | .entry x => [x]
  | .pick c a b => [c, a, b]
  | .store _ x v => [x, v]
  | .indexAddr _ x i | .index _ x i => [x, i]
  | .binOp _ _ x y _ => [x, y]
  | .build _ ps | .buildSlice _ _ ps => ps.toList.map (·.2)
  | .makeSlice _ n c => [n, c]
  | .slice _ x lo hi mx => x :: (lo.toList ++ (hi.toList ++ mx.toList))
  | .lookup _ m x _ | .mapEntry _ m x => [m, x]
  | .mapUpdate _ m x v | .entryStore _ m x v => [m, x, v]
  | .makeFunc _ _ caps => caps.toList
  | .call { callee := .value f, args, .. } => f :: args.toList
  | .call { args, .. } => args.toList
  | _ => []
theorem map_congr {α : Type} {l : List α} {f f' : α → TV} (h : ∀ x, x ∈ l → f x = f' x) : l.map f = l.map f' := List.map_congr_left h
theorem buildK_congr {ti : TyI} : ∀ {l : List (Nat × Operand)} {cs : List AV} {k : List AV → Prop}, (∀ x, x ∈ l.map (·.2) → e x = e' x) → buildK cf e ti l cs k = buildK cf e' ti l cs k
  | [], cs, k, h => rfl
  | (i, x) :: rest, cs, k, h => by
    simp only [buildK]
    rw [h x (by simp)]
    congr 1
    funext ds
    congr 1
    funext cs
    exact buildK_congr (fun y hy => h y (List.mem_cons_of_mem _ hy))
theorem optK_congr {x : Option Operand} {k : Option AV → Prop} (h : ∀ y, y ∈ x.toList → e y = e' y) : optK e x k = optK e' x k := by
  cases x with
  | none => rfl
  | some x => simp only [optK]; rw [h x (by simp)]
theorem sem_congr {K : TV → Loc → Heap → Prop} (he : ∀ x, x ∈ opnds o → e x = e' x) : sem P cf fz o e loc h K = sem P cf fz o e' loc h K := by
  unfold opnds at he
  unfold sem
  cases hop : o.op with
  | slice t x lo hi mx =>
    rw [hop] at he
    simp only at he ⊢
    rw [he x (by simp)]
    cases mx with
    | some m =>
      simp only
      cases lo <;> cases hi <;> first | rfl | skip
      rename_i hi
      simp only
      rw [he hi (by simp), he m (by simp)]
    | none =>
      simp only
      congr 1
      funext v
      rw [optK_congr (e := e) (e' := e') (fun y hy => he y (by simp at hy; simp [hy]))]
      congr 1
      funext l
      rw [optK_congr (e := e) (e' := e') (fun y hy => he y (by simp at hy; simp [hy]))]
  | build t ps =>
    rw [hop] at he
    simp only at he ⊢
    exact buildK_congr he
  | buildSlice t n ps =>
    rw [hop] at he
    simp only at he ⊢
    have : ps.toList.map (fun p => e p.2) = ps.toList.map (fun p => e' p.2) := List.map_congr_left fun p hp => he _ (List.mem_map_of_mem hp)
    rw [this]
  | makeFunc f first caps =>
    rw [hop] at he
    simp only at he ⊢
    cases f with
    | func f => simp only; rw [map_congr he]
    | _ => rfl
  | unOp op t x =>
    rw [hop] at he
    simp only at he ⊢
    cases op <;> simp [he x (by simp)]
  | call c =>
    obtain ⟨callee, args, ts⟩ := c
    rw [hop] at he
    cases callee with
    | value x =>
      simp only at he
      have h1 : args.toList.map e = args.toList.map e' := map_congr fun y hy => he y (by simp at hy; simp [hy])
      have h2 := he x (by simp)
      cases x with
      | func f => simp only; rw [h1]
      | tmp t => simp only; rw [h1, h2]
      | _ => rfl
    | invoke r n => rfl
    | builtin bi =>
      simp only at he
      cases bi <;> first | rfl | skip
      all_goals
        simp only
        split <;> first | rfl | simp_all
  | _ => (rw [hop] at he) <;> simp_all
theorem loadV_ro {p : AV} {k : AV → Prop} {h2 : Heap} (hk : fixA p (loadV p h k)) : fixA p (loadV p h2 k) := by
  cases p <;> first | exact hk | exact hk.elim
theorem loadG_ro {sz : Nat} {p : AV} {k : List AV → Prop} {h2 : Heap} (hk : fixA p (loadG sz p h k)) : fixA p (loadG sz p h2 k) := by
  cases p <;> first | exact hk | exact hk.elim
theorem idxA_ro {es : Nat} {x i : AV} {k : AV → Prop} {h2 : Heap} (hk : fixA x (idxA es x i h k)) : fixA x (idxA es x i h2 k) := by
  cases x <;> first | exact hk | exact hk.elim
theorem sem_stable {loc2 : Loc} {h2 : Heap} {k : TV → Prop} (hl : like cf o = true) (hd : fz.d = true) (hloc : reads o = true → ∀ u, (lkp loc u).isSome → lkp loc2 u = lkp loc u)
    (hh : reads o = true → nmem cf.own (o.dst.getD 0) = true → h2 = h) (hk : sem P cf fz o e loc h fun y _ _ => k y) : sem P cf fz o e loc2 h2 fun y _ _ => k y := by
  unfold like at hl
  unfold reads at hloc hh
  unfold sem at hk ⊢
  cases hop : o.op with
  | load t x =>
    rw [hop] at hk hloc hh
    simp only at hk ⊢
    split at hk
    · rename_i u off he
      split at hk
      · rename_i cs hcs
        rw [hloc rfl u (by simp [hcs]), hcs]
        exact hk
      · exact (show False from hk).elim
    · rename_i p he
      unfold drK at hk ⊢
      rw [hd] at hk ⊢
      simp only at hk ⊢
      cases ho : nmem cf.own (o.dst.getD 0) with
      | true => rw [ho] at hk; rw [hh rfl ho]; exact hk
      | false =>
        rw [ho] at hk
        simp only at hk ⊢
        split at hk
        · exact loadG_ro hk
        · exact loadV_ro hk
    · exact (show False from hk).elim
  | indexAddr t x i =>
    rw [hop] at hk hloc hh
    refine asAV_det.mono (fun x hk => asAV_det.mono (fun i hk => ?_) hk) hk
    unfold drK at hk ⊢
    rw [hd] at hk ⊢
    simp only at hk ⊢
    cases ho : nmem cf.own (o.dst.getD 0) with
    | true => rw [ho] at hk; rw [hh rfl ho]; exact hk
    | false =>
      rw [ho] at hk
      exact idxA_ro hk
  | unOp op t x => rw [hop] at hk; cases op <;> exact hk
  | makeFunc f first caps => rw [hop] at hk; cases f <;> exact hk
  | call c =>
    obtain ⟨callee, args, ts⟩ := c
    rw [hop] at hl hk
    cases callee with
    | value x => cases hl
    | invoke r n => cases hl
    | builtin bi =>
      cases bi <;> first | (cases hl; done) | exact hk | skip
      simp only at hl hk ⊢
      split at hk
      · rename_i x t h1 h2
        rw [h2] at hl
        simp only at hl
        split at hk
        · exact hk
        · rename_i hm; rw [hm] at hl; cases hl
        · exact hk
        · exact hk
      · exact hk
  | _ => (rw [hop] at hl hk) <;> first | exact hk | (cases hl; done)
end
end Am
set_option linter.unusedVariables false
set_option linter.unusedSimpArgs false
namespace Am
open Go
def grdS (y : TV) (want : Bool) (A B : Prop) : Prop := match y with
  | .bl b => match b, want with
    | true, true | false, false => A
    | _, _ => B
  | .und => B
  | _ => FF
noncomputable def semG (P : Program) (cf : Cfg) (fz : Fz) (ops : Array Oper) (o : Oper) (e : Operand → TV) (loc : Loc) (h : Heap) (k : TV → Loc → Heap → Prop) : Prop := match opTy cf o with
  | false => FF
  | true => match o.guard with
    | none => sem P cf fz o e loc h k
    | some (j, want) => match dstOf ops j with
      | none => FF
      | some t => grdS (e (.tmp t)) want (sem P cf fz o e loc h k) (k .und loc h)
section
variable {P : Program} {cf : Cfg} {fz : Fz} {env : Env} {loc : Loc} {h : Heap} {o : Oper} {e e' : Operand → TV} {ops : Array Oper} {k : K}
theorem one_semG (hd : fz.d = true) (hl : isL cf o = false) : awpOne P cf fz ops o k env loc h = semG P cf fz ops o (ev env) loc h fun y loc h => putK fz env o.dst y fun env => k env loc h := by
  unfold awpOne semG
  cases opTy cf o with
  | false => rfl
  | true =>
    simp only
    cases o.guard with
    | none => exact aop_sem hl
    | some g =>
      obtain ⟨j, want⟩ := g
      simp only
      cases dstOf ops j with
      | none => rfl
      | some t =>
        simp only
        unfold grdK grdS
        rw [show ev env (.tmp t) = nth env t from rfl]
        cases nth env t with
        | av c =>
          simp only [hd]
          cases may fz.t t with
          | false => rfl
          | true => rfl
        | bl b => cases b <;> cases want <;> simp only <;> first | rfl | exact aop_sem hl
        | _ => rfl
theorem grdS_det {α : Type} {y : TV} {want : Bool} {W V : (α → Prop) → Prop} (hw : Det W) (hv : Det V) : Det (fun k => grdS y want (W k) (V k)) := by
  unfold grdS
  cases y with
  | bl b => cases b <;> cases want <;> first | exact hw | exact hv
  | und => exact hv
  | _ => exact Det.ff
theorem brA_mono {c : AV} {A B A' B' : Prop} (ha : A → A') (hb : B → B') (hk : brA c A B) : brA c A' B' := by
  unfold brA at hk ⊢
  split at hk
  · exact ⟨fun e => ha (hk.1 e), fun e => hb (hk.2 e)⟩
  · exact hk
theorem grdS_mono {y : TV} {want : Bool} {A B A' B' : Prop} (ha : A → A') (hb : B → B') (hk : grdS y want A B) : grdS y want A' B' := by
  unfold grdS at hk ⊢
  cases y with
  | bl b => cases b <;> cases want <;> first | exact ha hk | exact hb hk
  | und => exact hb hk
  | _ => exact hk
theorem semG_like (hl : like cf o = true) {K : TV → Loc → Heap → Prop} : semG P cf fz ops o e loc h K = semG P cf fz ops o e loc h fun y _ _ => K y loc h := by
  unfold semG
  rw [sem_like hl]
theorem semG_det (hl : like cf o = true) : Det (fun k => semG P cf fz ops o e loc h fun y _ _ => k y) := by
  unfold semG
  cases opTy cf o with
  | false => exact Det.ff
  | true =>
    simp only
    cases o.guard with
    | none => exact sem_det hl
    | some g =>
      obtain ⟨j, want⟩ := g
      simp only
      cases dstOf ops j with
      | none => exact Det.ff
      | some t => exact grdS_det (sem_det hl) Det.pure
theorem semG_mono {K K' : TV → Loc → Heap → Prop} (hi : ∀ y loc h, K y loc h → K' y loc h) (hk : semG P cf fz ops o e loc h K) : semG P cf fz ops o e loc h K' := by
  unfold semG at hk ⊢
  cases ho : opTy cf o with
  | false => rw [ho] at hk; exact hk
  | true =>
    rw [ho] at hk
    simp only at hk ⊢
    cases hg : o.guard with
    | none => rw [hg] at hk; exact sem_mono hi hk
    | some g =>
      obtain ⟨j, want⟩ := g
      rw [hg] at hk
      simp only at hk ⊢
      cases ht : dstOf ops j with
      | none => rw [ht] at hk; exact hk
      | some t => rw [ht] at hk; exact grdS_mono (sem_mono hi) (hi _ _ _) hk
def looks (ops : Array Oper) (o : Oper) : List Operand := match o.guard with
  | none => opnds o
  | some (j, _) => match dstOf ops j with
    | none => opnds o
    | some t => .tmp t :: opnds o
theorem semG_congr {K : TV → Loc → Heap → Prop} (he : ∀ x, x ∈ looks ops o → e x = e' x) : semG P cf fz ops o e loc h K = semG P cf fz ops o e' loc h K := by
  unfold looks at he
  unfold semG
  cases opTy cf o with
  | false => rfl
  | true =>
    simp only
    cases hg : o.guard with
    | none => rw [hg] at he; exact sem_congr he
    | some g =>
      obtain ⟨j, want⟩ := g
      rw [hg] at he
      simp only at he ⊢
      cases ht : dstOf ops j with
      | none => rfl
      | some t =>
        rw [ht] at he
        simp only at he ⊢
        rw [he _ (by simp), sem_congr (fun x hx => he x (by simp [hx]))]
theorem semG_stable {loc2 : Loc} {h2 : Heap} {k : TV → Prop} (hl : like cf o = true) (hd : fz.d = true) (hloc : reads o = true → ∀ u, (lkp loc u).isSome → lkp loc2 u = lkp loc u)
    (hh : reads o = true → nmem cf.own (o.dst.getD 0) = true → h2 = h) (hk : semG P cf fz ops o e loc h fun y _ _ => k y) : semG P cf fz ops o e loc2 h2 fun y _ _ => k y := by
  unfold semG at hk ⊢
  cases ho : opTy cf o with
  | false => rw [ho] at hk; exact hk
  | true =>
    rw [ho] at hk
    simp only at hk ⊢
    cases hg : o.guard with
    | none => rw [hg] at hk; exact sem_stable hl hd hloc hh hk
    | some g =>
      obtain ⟨j, want⟩ := g
      rw [hg] at hk
      simp only at hk ⊢
      cases ht : dstOf ops j with
      | none => rw [ht] at hk; exact hk
      | some t => rw [ht] at hk; exact grdS_mono (sem_stable hl hd hloc hh) id hk
end
end Am
set_option linter.unusedVariables false
set_option linter.unusedSimpArgs false
namespace Am
open Go
def isStore (o : Oper) : Bool := match o.op with
  | .store _ _ _ => true
  | _ => false
def nrm (gd : Bool) (y : TV) : TV := match gd, y with
  | true, .av (.val (.bool b)) => .bl b
  | _, y => y
noncomputable def putE (gs : List Nat) (env : Env) (dst : Option Tmp) (y : TV) : Env := match dst with
  | none => env
  | some d => env.set d (nrm (nmem gs d) y)
def putOk (fz : Fz) (dst : Option Tmp) (y : TV) : Prop := ∀ d, dst = some d → may fz.t d = true ∧ (nmem fz.g d = true → ∀ c, y = .av c → ∃ b, c = .val (.bool b))
section
variable {P : Program} {cf : Cfg} {fz : Fz} {env : Env} {loc : Loc} {h : Heap} {o : Oper} {e e' : Operand → TV} {ops : Array Oper} {k : K}
theorem putK_elim {dst : Option Tmp} {y : TV} {k : Env → Prop} (hk : putK fz env dst y k) : k (putE fz.g env dst y) ∧ putOk fz dst y := by
  unfold putK at hk
  cases dst with
  | none => exact ⟨hk, fun d h => by cases h⟩
  | some d =>
    simp only at hk
    unfold putE
    simp only
    cases hm : may fz.t d with
    | false => rw [hm] at hk; exact (show False from hk).elim
    | true =>
      rw [hm] at hk
      simp only at hk
      cases hg : nmem fz.g d with
      | false =>
        rw [hg] at hk
        simp only [setK_eq] at hk
        refine ⟨?_, fun d' h => by cases h; exact ⟨hm, fun h => by rw [hg] at h; cases h⟩⟩
        cases y <;> exact hk
      | true =>
        rw [hg] at hk
        simp only [setK_eq] at hk
        split at hk
        · rename_i c
          unfold brA at hk
          split at hk
          · rename_i x
            refine ⟨?_, fun d' h => by cases h; exact ⟨hm, fun _ c hc => by cases hc; exact ⟨_, rfl⟩⟩⟩
            cases x
            · exact hk.2 rfl
            · exact hk.1 rfl
          · exact hk.elim
        · rename_i hne
          refine ⟨?_, fun d' h => by cases h; exact ⟨hm, fun _ c hc => (hne c hc).elim⟩⟩
          cases y <;> first | exact hk | exact (hne _ rfl).elim
theorem putK_intro {dst : Option Tmp} {y : TV} {k : Env → Prop} (hm : putOk fz dst y) (hk : k (putE fz.g env dst y)) : putK fz env dst y k := by
  unfold putK
  cases dst with
  | none => exact hk
  | some d =>
    obtain ⟨h1, h2⟩ := hm d rfl
    unfold putE at hk
    simp only at hk ⊢
    rw [h1]
    simp only
    cases hg : nmem fz.g d with
    | false =>
      rw [hg] at hk
      simp only [setK_eq]
      cases y <;> exact hk
    | true =>
      rw [hg] at hk
      simp only [setK_eq]
      cases y with
      | av c =>
        obtain ⟨x, rfl⟩ := h2 hg c rfl
        cases x
        · exact ⟨fun h => (by cases h), fun _ => hk⟩
        · exact ⟨fun _ => hk, fun h => (by cases h)⟩
      | _ => exact hk
theorem ev_putE {gs : List Nat} {dst : Option Tmp} {y : TV} {x : Operand} (hx : ∀ d, dst = some d → x ≠ .tmp d) : ev (putE gs env dst y) x = ev env x := by
  cases dst with
  | none => rfl
  | some d =>
    cases x with
    | tmp t =>
      show nth (env.set d _) t = nth env t
      rw [nth_set, if_neg (fun h => hx d rfl (by rw [h.1]))]
    | _ => rfl
theorem putE_comm {gs : List Nat} {d1 d2 : Option Tmp} {y z : TV} (hne : ∀ d, d1 = some d → d2 ≠ some d) : putE gs (putE gs env d2 z) d1 y = putE gs (putE gs env d1 y) d2 z := by
  cases d1 with
  | none => rfl
  | some a =>
    cases d2 with
    | none => rfl
    | some b =>
      have : a ≠ b := fun e => hne a rfl (by rw [e])
      exact List.set_comm _ _ this.symm
theorem sem_noloc (hs : isStore o = false) {K : TV → Loc → Heap → Prop} : sem P cf fz o e loc h K = sem P cf fz o e loc h fun y _ h => K y loc h := by
  unfold isStore at hs
  unfold sem
  cases hop : o.op with
  | unOp op t x => cases op <;> rfl
  | makeFunc f first caps => cases f <;> rfl
  | call c =>
    obtain ⟨callee, args, ts⟩ := c
    cases callee with
    | value x => cases x <;> rfl
    | builtin bi => cases bi <;> rfl
    | invoke r n => rfl
  | _ => (rw [hop] at hs) <;> first | rfl | (cases hs; done)
theorem semG_noloc (hs : isStore o = false) {K : TV → Loc → Heap → Prop} : semG P cf fz ops o e loc h K = semG P cf fz ops o e loc h fun y _ h => K y loc h := by
  unfold semG
  rw [sem_noloc hs]
theorem exch (hd : fz.d = true) {i j : Oper} (hLj : isL cf j = false) (hLi : isL cf i = false) (hj : like cf j = true)
    (n1 : ∀ d, j.dst = some d → ∀ x, x ∈ looks ops i → x ≠ .tmp d) (n2 : ∀ d, i.dst = some d → ∀ x, x ∈ looks ops j → x ≠ .tmp d) (n3 : ∀ d, j.dst = some d → i.dst ≠ some d)
    (hc : like cf i = true ∨ (reads j = true → isStore i = false ∧ nmem cf.own (j.dst.getD 0) = false))
    (hk : awpOne P cf fz ops j (awpOne P cf fz ops i k) env loc h) : awpOne P cf fz ops i (awpOne P cf fz ops j k) env loc h := by
  rw [one_semG hd hLj, semG_like hj] at hk
  obtain ⟨y, hy, hback⟩ := semG_det hj _ hk
  obtain ⟨hy, hm1⟩ := putK_elim hy
  rw [one_semG hd hLi, semG_congr (e' := ev env) (fun x hx => ev_putE (fun d hd => n1 d hd x hx))] at hy
  rw [one_semG hd hLi]
  have fin : ∀ z loc' h', (reads j = true → ∀ u, (lkp loc u).isSome → lkp loc' u = lkp loc u) → (reads j = true → nmem cf.own (j.dst.getD 0) = true → h' = h) →
      putK fz (putE fz.g env j.dst y) i.dst z (fun env => k env loc' h') → putK fz env i.dst z (fun env => awpOne P cf fz ops j k env loc' h') := by
    intro z loc' h' s1 s2 hz
    obtain ⟨hz, hm2⟩ := putK_elim hz
    refine putK_intro hm2 ?_
    rw [one_semG hd hLj, semG_like hj, semG_congr (e' := ev env) (fun x hx => ev_putE (fun d hd => n2 d hd x hx))]
    refine semG_stable hj hd s1 s2 (hback _ (putK_intro hm1 ?_))
    rw [putE_comm n3]
    exact hz
  by_cases hi : like cf i = true
  · rw [semG_like hi] at hy ⊢
    exact (semG_det hi).mono (fun z hz => fin z loc h (fun _ _ _ => rfl) (fun _ _ => rfl) hz) hy
  · have hc := hc.resolve_left hi
    by_cases hr : reads j = true
    · obtain ⟨c1, c2⟩ := hc hr
      rw [semG_noloc c1] at hy ⊢
      exact semG_mono (fun z _ h' hz => fin z loc h' (fun _ _ _ => rfl) (fun _ ho => by rw [c2] at ho; cases ho) hz) hy
    · exact semG_mono (fun z loc' h' hz => fin z loc' h' (fun h => (hr h).elim) (fun h => (hr h).elim) hz) hy
end
end Am
set_option linter.unusedVariables false
set_option linter.unusedSimpArgs false
namespace Am
open Go
section
variable {P : Program} {cf : Cfg} {fz : Fz} {env : Env} {loc : Loc} {h : Heap} {o : Oper} {e e' : Operand → TV} {ops : Array Oper} {k : K}
theorem fixA_mono {x : AV} {A B : Prop} (hi : A → B) (hk : fixA x A) : fixA x B := by
  cases x <;> first | exact hk.elim | exact hi hk
theorem sem_ext {loc2 : Loc} {k : TV → Heap → Prop} (hs : isStore o = false) (he : ∀ x, x ∈ opnds o → ∀ u off, e x = .loc u off → lkp loc2 u = lkp loc u) :
    sem P cf fz o e loc h (fun y _ h => k y h) = sem P cf fz o e loc2 h fun y _ h => k y h := by
  unfold isStore at hs
  unfold opnds at he
  unfold sem
  cases hop : o.op with
  | load t x =>
    rw [hop] at he
    simp only at he ⊢
    cases hx : e x with
    | loc u off => simp only; rw [he x (by simp) u off hx]
    | _ => rfl
  | unOp op t x => cases op <;> rfl
  | makeFunc f first caps => cases f <;> rfl
  | call c =>
    obtain ⟨callee, args, ts⟩ := c
    cases callee with
    | value x => cases x <;> rfl
    | builtin bi => cases bi <;> rfl
    | invoke r n => rfl
  | _ => (rw [hop] at hs) <;> first | rfl | (cases hs; done)
theorem sem_nol {d : Nat} {K : TV → Loc → Heap → Prop} (he : ∀ x, x ∈ opnds o → ∀ off, e x ≠ .loc d off) (hk : sem P cf fz o e loc h K) :
    sem P cf fz o e loc h fun y l h => (∀ off, y ≠ .loc d off) ∧ K y l h := by
  have av : ∀ {v : AV} {l : Loc} {h : Heap}, K (.av v) l h → (∀ off, TV.av v ≠ .loc d off) ∧ K (.av v) l h := fun hk => ⟨fun off => by simp, hk⟩
  have ag : ∀ {v : List AV} {l : Loc} {h : Heap}, K (.ag v) l h → (∀ off, TV.ag v ≠ .loc d off) ∧ K (.ag v) l h := fun hk => ⟨fun off => by simp, hk⟩
  have de : ∀ {l : Loc} {h : Heap}, K .dead l h → (∀ off, TV.dead ≠ .loc d off) ∧ K .dead l h := fun hk => ⟨fun off => by simp, hk⟩
  unfold opnds at he
  unfold sem at hk ⊢
  cases hop : o.op with
  | move x => rw [hop] at hk he; exact ⟨he x (by simp), hk⟩
  | assign x => rw [hop] at hk he; exact ⟨he x (by simp), hk⟩
  | pick c x y =>
    rw [hop] at hk he
    simp only at hk he ⊢
    split at hk
    · exact ⟨he x (by simp), hk⟩
    · exact ⟨he y (by simp), hk⟩
    · exact brA_mono (fun hk => ⟨he x (by simp), hk⟩) (fun hk => ⟨he y (by simp), hk⟩) hk
    · exact hk
  | box t x =>
    rw [hop] at hk
    refine cellsK_det.mono (fun cs hk => ?_) hk
    split at hk
    · exact newA_mono (fun v h => av) hk
    · exact hk
  | alloc t =>
    rw [hop] at hk
    simp only at hk ⊢
    split at hk
    · exact newA_mono (fun v h => av) hk
    · exact hk
  | load t x =>
    rw [hop] at hk
    simp only at hk ⊢
    split at hk
    · split at hk
      · split at hk
        · exact takeK_det.mono (fun v => ag) hk
        · exact takeK_det.mono (fun v => av) hk
      · exact hk
    · unfold drK at hk ⊢
      have go : ∀ {p : AV}, (match (cf.ty t).agg with
          | true => loadG (cf.ty t).sz p h fun cs => K (.ag (gets cs 0 (cf.ty t).sz)) loc h
          | false => loadV p h fun v => K (.av v) loc h) → (match (cf.ty t).agg with
          | true => loadG (cf.ty t).sz p h fun cs => (∀ off, TV.ag (gets cs 0 (cf.ty t).sz) ≠ .loc d off) ∧ K (.ag (gets cs 0 (cf.ty t).sz)) loc h
          | false => loadV p h fun v => (∀ off, TV.av v ≠ .loc d off) ∧ K (.av v) loc h) := by
        intro p hk
        split at hk
        · exact loadG_det.mono (fun v => ag) hk
        · exact loadV_det.mono (fun v => av) hk
      split at hk
      · exact go hk
      · split at hk
        · exact go hk
        · exact fixA_mono go hk
    · exact hk
  | store t x v =>
    rw [hop] at hk
    refine cellsK_det.mono (fun cs hk => ?_) hk
    split at hk
    · split at hk
      · exact hk
      · split at hk
        · refine takeK_det.mono (fun _ hk => ?_) hk
          rw [spliceK_eq, lsetK_eq] at hk ⊢
          exact de hk
        · exact hk
    · exact storeG_mono (fun h => de) hk
    · exact hk
  | nilCheck x =>
    rw [hop] at hk he
    simp only at hk he ⊢
    split at hk
    · rename_i u off hx
      exact ⟨fun off' hy => he x (by simp) off (by rw [hx]; cases hy; rfl), hk⟩
    · exact (nilA_det (W := fun k : Unit → Prop => k ()) Det.pure).mono (k := fun _ => _) (k' := fun _ => _) (fun _ => av) hk
    · exact hk
  | fieldAddr t x f =>
    rw [hop] at hk he
    simp only at hk he ⊢
    split at hk
    · rename_i u off hx
      exact ⟨fun off' hy => he x (by simp) off (by rw [hx]; cases hy; rfl), hk⟩
    · exact fldA_det.mono (fun v => av) hk
    · exact hk
  | indexAddr t x i =>
    rw [hop] at hk
    refine asAV_det.mono (fun x hk => asAV_det.mono (fun i hk => ?_) hk) hk
    exact (drK_det (W := fun k : AV → Prop => idxA (cf.ty (cf.ty t).elem).sz x i h k) idxA_det).mono (fun v => av) hk
  | index t x i => rw [hop] at hk; exact asAV_det.mono (fun x hk => asAV_det.mono (fun i hk => strA_det.mono (fun v => av) hk) hk) hk
  | binOp op t x y u =>
    rw [hop] at hk
    refine asAV_det.mono (fun x hk => asAV_det.mono (fun y hk => ?_) hk) hk
    split at hk
    · exact eqA_det.mono (fun v => av) hk
    · exact eqA_det.mono (fun v => av) hk
    · exact hk
    · split at hk
      · exact eqbA_det.mono (fun v => av) hk
      · exact eqbA_det.mono (fun v => av) hk
      · exact hk
      · exact binA_det.mono (fun v => av) hk
  | unOp op t x => rw [hop] at hk; cases op <;> first | exact hk | exact asAV_det.mono (fun x hk => notA_det.mono (fun v => av) hk) hk
  | extract x i => rw [hop] at hk; exact asAV_det.mono (fun x hk => tupA_det.mono (fun v => av) hk) hk
  | build t ps => rw [hop] at hk; exact buildK_det.mono (fun x hk => takeK_det.mono (fun v => ag) hk) hk
  | buildSlice t n ps =>
    rw [hop] at hk
    simp only at hk ⊢
    split at hk
    · cases n with
      | zero => exact av hk
      | succ n => exact cellsKs_det.mono (fun v => av) hk
    · exact hk
  | makeSlice t n c => rw [hop] at hk; exact asAV_det.mono (fun n hk => asAV_det.mono (fun c hk => mkA_mono (fun v h => av) hk) hk) hk
  | slice t x lo hi mx =>
    rw [hop] at hk
    cases mx with
    | some m =>
      simp only at hk ⊢
      split at hk
      · exact asAV_det.mono (fun x hk => asAV_det.mono (fun hi hk => asAV_det.mono (fun mx hk => sl3A_det.mono (fun v => av) hk) hk) hk) hk
      · exact hk
    | none => exact asAV_det.mono (fun x hk => optK_det.mono (fun l hk => optK_det.mono (fun u hk => sliceA_det.mono (fun v => av) hk) hk) hk) hk
  | convert s t x =>
    rw [hop] at hk
    simp only at hk ⊢
    split at hk
    · exact asAV_det.mono (fun x hk => convA_det.mono (fun v => av) hk) hk
    · exact hk
  | makeMap t r =>
    rw [hop] at hk
    cases r <;> first | exact newM_mono (fun v h => av) hk | exact hk
  | lookup t m x ok =>
    rw [hop] at hk
    simp only at hk ⊢
    split at hk
    · exact asAV_det.mono (fun m hk => cellsK_det.mono (fun cs hk => lookA_mono (fun v => av) hk) hk) hk
    · exact hk
  | mapUpdate t m x v =>
    rw [hop] at hk
    simp only at hk ⊢
    split at hk
    · exact asAV_det.mono (fun m hk => cellsK_det.mono (fun cs hk => cellsK_det.mono (fun vs hk => updA_mono (fun h => de) hk) hk) hk) hk
    · exact hk
  | mapEntry t m x =>
    rw [hop] at hk
    simp only at hk ⊢
    split at hk
    · exact asAV_det.mono (fun m hk => cellsK_det.mono (fun cs hk => entA_mono (fun v h => av) hk) hk) hk
    · exact hk
  | entryStore t m i v =>
    rw [hop] at hk
    simp only at hk ⊢
    split at hk
    · exact asAV_det.mono (fun m hk => asAV_det.mono (fun i hk => cellsK_det.mono (fun vs hk => entS_mono (fun h => de) hk) hk) hk) hk
    · exact hk
  | range t m =>
    rw [hop] at hk
    simp only at hk ⊢
    split at hk
    · exact asAV_det.mono (fun m hk => rangeA_mono (fun v h => av) hk) hk
    · exact hk
  | next it str =>
    rw [hop] at hk
    cases str <;> first | exact asAV_det.mono (fun m hk => nextA_mono (fun v h => av) hk) hk | exact hk
  | entry it =>
    rw [hop] at hk
    exact asAV_det.mono (fun m hk => entryA_mono (fun v => av) hk) hk
  | makeFunc f first caps =>
    rw [hop] at hk
    cases f with
    | func f =>
      simp only at hk ⊢
      split at hk
      · exact asAVs_det.mono (fun v => av) hk
      · exact hk
    | _ => exact hk
  | call c =>
    obtain ⟨callee, args, ts⟩ := c
    rw [hop] at hk
    cases callee with
    | value x =>
      cases x with
      | func f => exact asAVs_det.mono (fun vs hk => callS_mono (fun v h => av) hk) hk
      | tmp t => exact asAV_det.mono (fun f hk => asAVs_det.mono (fun vs hk => callV_mono (fun v h => av) hk) hk) hk
      | _ => exact hk
    | invoke r n => exact hk
    | builtin bi =>
      cases bi <;> first | exact hk | skip
      · simp only at hk ⊢
        split at hk
        · split at hk
          · exact asAV_det.mono (fun n hk => asAV_det.mono (fun c hk => appA_mono (fun v h => av) hk) hk) hk
          · exact hk
        · exact hk
      · simp only at hk ⊢
        split at hk
        · split at hk
          · exact asAV_det.mono (fun x hk => lenS_det.mono (fun v => av) hk) hk
          · exact asAV_det.mono (fun x hk => lenM_det.mono (fun v => av) hk) hk
          · exact asAV_det.mono (fun x hk => lenA_det.mono (fun v => av) hk) hk
          · exact hk
        · exact hk
      · simp only at hk ⊢
        split at hk
        · exact asAV_det.mono (fun x hk => asAV_det.mono (fun y hk => maxA_det.mono (fun v => av) hk) hk) hk
        · exact hk
      · simp only at hk ⊢
        split at hk
        · exact asAV_det.mono (fun x hk => asAV_det.mono (fun y hk => minA_det.mono (fun v => av) hk) hk) hk
        · exact hk
  | _ => rw [hop] at hk; exact hk
end
end Am
set_option linter.unusedVariables false
set_option linter.unusedSimpArgs false
namespace Am
open Go
section
variable {P : Program} {cf : Cfg} {fz : Fz} {env : Env} {loc : Loc} {h : Heap} {o : Oper} {e e' : Operand → TV} {ops : Array Oper} {k : K}
theorem hasLoc_eq : ∀ {l : List TV} {d : Nat}, hasLoc l d = false ↔ ∀ t off, nth l t ≠ .loc d off
  | [], d => ⟨fun _ t off h => (by rw [nth_dead (by simp)] at h; cases h), fun _ => rfl⟩
  | x :: xs, d => by
    have ih := hasLoc_eq (l := xs) (d := d)
    have e1 : hasLoc (x :: xs) d = (match x with | .loc u _ => (match Nat.beq u d with | true => true | false => hasLoc xs d) | _ => hasLoc xs d) := rfl
    have hs : ∀ t, nth (x :: xs) (t + 1) = nth xs t := fun t => by simp [nth_eq]
    have h0 : nth (x :: xs) 0 = x := rfl
    constructor
    · intro h t off
      cases t with
      | zero =>
        rw [h0]
        rintro rfl
        rw [e1] at h
        simp at h
      | succ t =>
        rw [hs]
        refine ih.1 ?_ t off
        rw [e1] at h
        split at h
        · split at h
          · cases h
          · exact h
        · exact h
    · intro h
      have h2 := ih.2 fun t off => by rw [← hs]; exact h (t + 1) off
      rw [e1]
      split
      · rename_i u off
        split
        · rename_i hb; exact (h 0 off (by rw [h0, nbeq.1 hb])).elim
        · exact h2
      · exact h2
theorem map_kill {l : List TV} {d : Nat} (h : ∀ t off, nth l t ≠ .loc d off) : l.map (kill1 d) = l := by
  have : ∀ x, x ∈ l → kill1 d x = x := fun x hx => by
    obtain ⟨t, ht, rfl⟩ := List.getElem_of_mem hx
    have h1 := h t
    have e1 : nth l t = l[t] := by simp [nth_eq, List.getD_eq_getElem?_getD, ht]
    rw [e1] at h1
    cases hl : l[t] with
    | loc u off =>
      rw [hl] at h1
      simp only [kill1]
      rw [if_neg (fun e => h1 off (by rw [e]))]
    | _ => rfl
  conv => rhs; rw [← List.map_id l]
  exact List.map_congr_left this
theorem var_elim {dst : Option Tmp} {cs : List AV} {kk : Env → Loc → Prop} (hd : fz.d = true) (hk : varC fz env loc dst (varK fz env loc dst cs kk)) :
    ∃ d, dst = some d ∧ lkp loc d = none ∧ (∀ t off, nth env t ≠ .loc d off) ∧ may fz.t d = true ∧ nmem fz.a d = false ∧ kk (env.set d (.loc d 0)) (lset loc d cs) := by
  have hk2 := varC_elim hk
  unfold varC at hk
  rw [hd] at hk
  cases dst with
  | none => exact (show False from hk).elim
  | some d =>
    simp only at hk
    split at hk
    · exact (show False from hk).elim
    · rename_i h1
      split at hk
      · exact (show False from hk).elim
      · rename_i h2
        have h3 := hasLoc_eq.1 h2
        unfold varK at hk2
        simp only at hk2
        split at hk2
        · exact (show False from hk2).elim
        · rename_i h4
          split at hk2
          · exact (show False from hk2).elim
          · rename_i h5
            simp only [killK_eq, setK_eq, lsetK_eq, map_kill h3] at hk2
            exact ⟨d, rfl, h1, h3, h4, h5, hk2⟩
theorem var_intro {d : Tmp} {cs : List AV} {kk : Env → Loc → Prop} (hd : fz.d = true) (h1 : lkp loc d = none) (h3 : ∀ t off, nth env t ≠ .loc d off) (h4 : may fz.t d = true) (h5 : nmem fz.a d = false)
    (hk : kk (env.set d (.loc d 0)) (lset loc d cs)) : varC fz env loc (some d) (varK fz env loc (some d) cs kk) := by
  unfold varC varK
  rw [hd]
  simp only [h1, hasLoc_eq.2 h3, h4, h5, killK_eq, setK_eq, lsetK_eq, map_kill h3]
  exact hk
theorem L_elim {j : Oper} (hd : fz.d = true) (hL : isL cf j = true) (hg : j.guard = none) (hk : awpOne P cf fz ops j k env loc h) :
    ∃ d cs, j.dst = some d ∧ lkp loc d = none ∧ (∀ t off, nth env t ≠ .loc d off) ∧ k (env.set d (.loc d 0)) (lset loc d cs) h ∧
      ∀ env2 loc2 h2 (k2 : K), (∀ x, x ∈ opnds j → ev env2 x = ev env x) → lkp loc2 d = none → (∀ t off, nth env2 t ≠ .loc d off) → k2 (env2.set d (.loc d 0)) (lset loc2 d cs) h2 → awpOne P cf fz ops j k2 env2 loc2 h2 := by
  unfold awpOne at hk ⊢
  split at hk
  · exact (show False from hk).elim
  · rename_i hty
    rw [hg] at hk
    simp only [hg, hty] at hk ⊢
    unfold isL at hL
    unfold aop at hk ⊢
    unfold opnds
    cases hop : j.op with
    | box t x =>
      rw [hop] at hL hk
      have he : nmem cf.esc (j.dst.getD 0) = false := by simpa using hL
      simp only [he] at hk ⊢
      obtain ⟨cs, hk1, hb⟩ := cellsK_det _ hk
      obtain ⟨d, h1, h2, h3, h4, h5, h6⟩ := var_elim hd hk1
      refine ⟨d, cs, h1, h2, h3, h6, fun env2 loc2 h2' k2 a1 a2 a3 a4 => ?_⟩
      rw [a1 x (by simp)]
      refine hb (fun cs => varC fz env2 loc2 j.dst (varK fz env2 loc2 j.dst cs fun env loc => k2 env loc h2')) ?_
      rw [h1]
      exact var_intro hd a2 a3 h4 h5 a4
    | alloc t =>
      rw [hop] at hL hk
      have he : nmem cf.esc (j.dst.getD 0) = false := by simpa using hL
      simp only [he] at hk ⊢
      obtain ⟨d, h1, h2, h3, h4, h5, h6⟩ := var_elim hd hk
      refine ⟨d, _, h1, h2, h3, h6, fun env2 loc2 h2' k2 a1 a2 a3 a4 => ?_⟩
      rw [h1]
      exact var_intro hd a2 a3 h4 h5 a4
    | _ => rw [hop] at hL; cases hL
theorem isL_notStore {j : Oper} (hL : isL cf j = true) : isStore j = false := by
  unfold isL at hL
  unfold isStore
  cases hop : j.op with
  | store t x v => rw [hop] at hL; cases hL
  | _ => rfl
theorem semG_ext {loc2 : Loc} {k : TV → Heap → Prop} (hs : isStore o = false) (he : ∀ x, x ∈ looks ops o → ∀ u off, e x = .loc u off → lkp loc2 u = lkp loc u) :
    semG P cf fz ops o e loc h (fun y _ h => k y h) = semG P cf fz ops o e loc2 h fun y _ h => k y h := by
  unfold semG
  unfold looks at he
  cases opTy cf o with
  | false => rfl
  | true =>
    simp only
    cases hg : o.guard with
    | none => rw [hg] at he; exact sem_ext hs he
    | some gw =>
      obtain ⟨j, want⟩ := gw
      rw [hg] at he
      simp only at he ⊢
      cases ht : dstOf ops j with
      | none => rfl
      | some t =>
        rw [ht] at he
        simp only at he ⊢
        rw [sem_ext hs (fun x hx => he x (by simp [hx]))]
theorem semG_nol {d : Nat} {K : TV → Loc → Heap → Prop} (he : ∀ x, x ∈ looks ops o → ∀ off, e x ≠ .loc d off) (hk : semG P cf fz ops o e loc h K) :
    semG P cf fz ops o e loc h fun y l h => (∀ off, y ≠ .loc d off) ∧ K y l h := by
  unfold semG at hk ⊢
  unfold looks at he
  cases ho : opTy cf o with
  | false => rw [ho] at hk; exact hk
  | true =>
    rw [ho] at hk
    simp only at hk ⊢
    cases hg : o.guard with
    | none => rw [hg] at hk he; exact sem_nol he hk
    | some gw =>
      obtain ⟨j, want⟩ := gw
      rw [hg] at hk he
      simp only at hk he ⊢
      cases ht : dstOf ops j with
      | none => rw [ht] at hk; exact hk
      | some t =>
        rw [ht] at hk he
        simp only at hk he
        exact grdS_mono (sem_nol (fun x hx => he x (by simp [hx]))) (fun hk => ⟨fun off => by simp, hk⟩) hk
theorem ev_noloc {d : Nat} (h : ∀ t off, nth env t ≠ .loc d off) (x : Operand) (off : Nat) : ev env x ≠ .loc d off := by
  cases x with
  | tmp t => exact h t off
  | const v =>
    show cAV v ≠ _
    unfold cAV
    split
    · simp
    · simp
    · split <;> simp [DD_eq]
  | func f => intro h; cases h
  | global g => intro h; cases h
theorem nrm_loc {g : Bool} {z : TV} {u off : Nat} (h : nrm g z = .loc u off) : z = .loc u off := by
  unfold nrm at h
  split at h
  · cases h
  · exact h
theorem exchL (hd : fz.d = true) {i j : Oper} (hL : isL cf j = true) (hg : j.guard = none) (hLi : isL cf i = false) (hs : isStore i = false)
    (n1 : ∀ d, j.dst = some d → ∀ x, x ∈ looks ops i → x ≠ .tmp d) (n2 : ∀ d, i.dst = some d → ∀ x, x ∈ opnds j → x ≠ .tmp d) (n3 : ∀ d, j.dst = some d → i.dst ≠ some d)
    (hk : awpOne P cf fz ops j (awpOne P cf fz ops i k) env loc h) : awpOne P cf fz ops i (awpOne P cf fz ops j k) env loc h := by
  obtain ⟨d, cs, h1, h2, h3, hy, hback⟩ := L_elim hd hL hg hk
  have hp : ∀ env : Env, env.set d (.loc d 0) = putE fz.g env j.dst (.loc d 0) := fun env => by
    rw [h1]; unfold putE; simp only; cases nmem fz.g d <;> rfl
  rw [hp, one_semG hd hLi, semG_congr (e' := ev env) (fun x hx => ev_putE (fun d hd => n1 d hd x hx)), semG_noloc hs,
    semG_ext (loc2 := loc) hs (fun x hx u off he => by
      rw [lkp_lset]
      split
      · rename_i e; subst e; exact (ev_noloc h3 x off he).elim
      · rfl)] at hy
  rw [one_semG hd hLi, semG_noloc hs]
  refine semG_mono (fun z _ h' hz => ?_) (semG_nol (d := d) (fun x hx off => ev_noloc h3 x off) hy)
  obtain ⟨hz1, hz⟩ := hz
  obtain ⟨hz, hm2⟩ := putK_elim hz
  refine putK_intro hm2 (hback _ _ _ _ (fun x hx => ev_putE (fun d hd => n2 d hd x hx)) h2 (fun t off => ?_) ?_)
  · unfold putE
    split
    · exact h3 t off
    · rw [nth_set]
      split
      · exact fun h => hz1 off (nrm_loc h)
      · exact h3 t off
  · rw [hp, putE_comm n3]
    exact hz
end
end Am
set_option linter.unusedVariables false
set_option linter.unusedSimpArgs false
namespace Am
open Go
def notIn (d : Option Tmp) (l : List Operand) : Bool := match d with
  | none => true
  | some d => l.all fun x => match x with
    | .tmp t => !Nat.beq t d
    | _ => true
def notDst (d d' : Option Tmp) : Bool := match d, d' with
  | some a, some b => !Nat.beq a b
  | _, _ => true
noncomputable def pairOk (cf : Cfg) (ops : Array Oper) (j i : Oper) : Bool :=
  (!isL cf i) && notIn j.dst (looks ops i) && notIn i.dst (looks ops j) && notDst j.dst i.dst &&
  bif isL cf j then j.guard.isNone && !isStore i
  else like cf j && (like cf i || !reads j || (!isStore i && !nmem cf.own (j.dst.getD 0)))
theorem notIn_eq {d : Option Tmp} {l : List Operand} (h : notIn d l = true) : ∀ a, d = some a → ∀ x, x ∈ l → x ≠ .tmp a := by
  rintro a rfl x hx rfl
  have := List.all_eq_true.1 h _ hx
  simp at this
theorem notDst_eq {d d' : Option Tmp} (h : notDst d d' = true) : ∀ a, d = some a → d' ≠ some a := by
  rintro a rfl e
  subst e
  simp [notDst] at h
section
variable {P : Program} {cf : Cfg} {fz : Fz} {env : Env} {loc : Loc} {h : Heap} {ops : Array Oper} {k : K}
theorem pair_exch (hd : fz.d = true) {i j : Oper} (hp : pairOk cf ops j i = true) (hk : awpOne P cf fz ops j (awpOne P cf fz ops i k) env loc h) : awpOne P cf fz ops i (awpOne P cf fz ops j k) env loc h := by
  simp only [pairOk, Bool.and_eq_true, Bool.not_eq_true', Bool.cond_eq_ite] at hp
  obtain ⟨⟨⟨⟨h1, h2⟩, h3⟩, h4⟩, h5⟩ := hp
  split at h5
  · rename_i hL
    simp only [Bool.and_eq_true, Bool.not_eq_true', Option.isNone_iff_eq_none] at h5
    have h3' : looks ops j = opnds j := by unfold looks; rw [h5.1]
    exact exchL hd hL h5.1 h1 h5.2 (notIn_eq h2) (by rw [← h3']; exact notIn_eq h3) (notDst_eq h4) hk
  · rename_i hL
    simp only [Bool.and_eq_true, Bool.or_eq_true, Bool.not_eq_true'] at h5
    refine exch hd (by simpa using hL) h1 h5.1 (notIn_eq h2) (notIn_eq h3) (notDst_eq h4) ?_ hk
    rcases h5.2 with (h | h) | h
    · exact .inl h
    · exact .inr fun hr => by rw [h] at hr; cases hr
    · exact .inr fun _ => h
theorem pair_mono (hd : fz.d = true) {i j : Oper} (hp : pairOk cf ops j i = true) {k' : K} (hi : ∀ env loc h, k env loc h → k' env loc h) (hk : awpOne P cf fz ops j k env loc h) : awpOne P cf fz ops j k' env loc h := by
  simp only [pairOk, Bool.and_eq_true, Bool.not_eq_true', Bool.cond_eq_ite] at hp
  obtain ⟨⟨⟨⟨h1, h2⟩, h3⟩, h4⟩, h5⟩ := hp
  split at h5
  · rename_i hL
    simp only [Bool.and_eq_true, Bool.not_eq_true', Option.isNone_iff_eq_none] at h5
    obtain ⟨d, cs, a1, a2, a3, hy, hback⟩ := L_elim hd hL h5.1 hk
    exact hback env loc h k' (fun _ _ => rfl) a2 a3 (hi _ _ _ hy)
  · rename_i hL
    rw [one_semG hd (by simpa using hL)] at hk ⊢
    refine semG_mono (fun y loc h hk => ?_) hk
    obtain ⟨hk, hm⟩ := putK_elim hk
    exact putK_intro hm (hi _ _ _ hk)
theorem pull (hd : fz.d = true) {i : Oper} {r2 : List Oper} : ∀ {r1 : List Oper} {env : Env} {loc : Loc} {h : Heap}, (∀ j, j ∈ r1 → pairOk cf ops j i = true) →
    awpOps P cf fz ops (r1 ++ i :: r2) k env loc h → awpOne P cf fz ops i (awpOps P cf fz ops (r1 ++ r2) k) env loc h
  | [], env, loc, h, hp, hk => hk
  | j :: r, env, loc, h, hp, hk => by
    have hk1 : awpOne P cf fz ops j (awpOps P cf fz ops (r ++ i :: r2) k) env loc h := hk
    exact pair_exch hd (hp j (by simp)) (pair_mono hd (hp j (by simp)) (fun env loc h => pull hd (fun j hj => hp j (by simp [hj]))) hk1)
end
end Am
set_option linter.unusedVariables false
set_option linter.unusedSimpArgs false
namespace Am
open Go
def preT (l : List Oper) : List (List Nat) := l.foldl (fun T o => T ++ [((edges o).flatMap fun j => j :: T.getD j []).eraseDups]) []
inductive Path (ops : Array Oper) : Nat → Nat → Prop
  | edge {i j o} (ho : ops[i]? = some o) (h : j ∈ edges o) : Path ops i j
  | step {i j m o} (ho : ops[i]? = some o) (h : m ∈ edges o) (hp : Path ops m j) : Path ops i j
theorem preT_len : ∀ (l : List Oper), (preT l).length = l.length := by
  intro l
  have : ∀ (l : List Oper) (T : List (List Nat)), (l.foldl (fun T o => T ++ [((edges o).flatMap fun j => j :: T.getD j []).eraseDups]) T).length = T.length + l.length := by
    intro l
    induction l with
    | nil => intro T; rfl
    | cons o l ih => intro T; rw [List.foldl_cons, ih]; simp; omega
  rw [preT, this]; simp
theorem preT_path {ops : Array Oper} : ∀ (l : List Oper) (T : List (List Nat)) (pre : List Oper), ops.toList = pre ++ l → T.length = pre.length → (∀ i j, j ∈ T.getD i [] → Path ops i j) →
    ∀ i j, j ∈ (l.foldl (fun T o => T ++ [((edges o).flatMap fun j => j :: T.getD j []).eraseDups]) T).getD i [] → Path ops i j
  | [], T, pre, h1, h2, h3, i, j, hj => h3 i j hj
  | o :: l, T, pre, h1, h2, h3, i, j, hj => by
    refine preT_path l (T ++ [((edges o).flatMap fun j => j :: T.getD j []).eraseDups]) (pre ++ [o]) (by simp [h1]) (by simp [h2]) (fun i j hj => ?_) i j hj
    by_cases hi : i < T.length
    · rw [getD_app_l hi] at hj; exact h3 i j hj
    · by_cases hi2 : i = T.length
      · subst hi2
        rw [getD_app_r (Nat.le_refl _), Nat.sub_self] at hj
        simp only [List.getD_cons_zero] at hj
        rw [List.mem_eraseDups] at hj
        obtain ⟨m, hm, hj⟩ := List.mem_flatMap.1 hj
        have ho : ops[T.length]? = some o := by
          rw [← Array.getElem?_toList, h1, h2]; simp
        rcases List.mem_cons.1 hj with rfl | hj
        · exact .edge ho hm
        · exact .step ho hm (h3 m j hj)
      · rw [List.getD_eq_getElem?_getD, List.getElem?_eq_none (by simp; omega)] at hj
        simp at hj
noncomputable def okB (cf : Cfg) (ops : Array Oper) (T : List (List Nat)) (j i : Nat) : Bool := (!Nat.beq j i) && (nmem (T.getD i []) j || pairOk cf ops (onth ops.toList j) (onth ops.toList i))
noncomputable def pairsB (cf : Cfg) (ops : Array Oper) (T : List (List Nat)) : List Nat → Bool
  | [] => true
  | j :: r => r.all (okB cf ops T j) && pairsB cf ops T r
def grp (m : Nat) : List Nat → List Nat × List (Nat × List Nat)
  | [] => ([], [])
  | c :: r => match Nat.blt m c with
    | true => (Nat.sub c (Nat.succ m) :: (grp m r).1, (grp m r).2)
    | false => ([], (c, (grp m r).1) :: (grp m r).2)
noncomputable def monoOk (cf : Cfg) (o : Oper) : Bool := !isL cf o || o.guard.isNone
noncomputable def chkPair (cf : Cfg) (ops : Array Oper) (j i : Oper) : Bool := like cf j && !isL cf j && !isL cf i && notIn j.dst (looks ops i) && notIn i.dst (looks ops j) && notDst j.dst i.dst && notIn j.dst (looks ops j) &&
  match j.dst with
  | some d => !nmem cf.gds d
  | none => false
noncomputable def passOk (cf : Cfg) (ops : Array Oper) (j c : Oper) : Bool := like cf j && !isL cf j && !isL cf c && like cf c && notIn j.dst (looks ops c) && notDst j.dst c.dst
noncomputable def okW (cf : Cfg) (ops : Array Oper) (T : List (List Nat)) (j i : Nat × List Nat) : Bool := (!Nat.beq j.1 i.1) && (!nmem (T.getD j.1 []) i.1) && (!nmem j.2 i.1) && (nmem (T.getD i.1 []) j.1 ||
  (j.2.isEmpty && (nmem i.2 j.1 || pairOk cf ops (onth ops.toList j.1) (onth ops.toList i.1)) && (!nmem i.2 j.1 || chkPair cf ops (onth ops.toList j.1) (onth ops.toList i.1)) &&
    i.2.all fun c => nmem (T.getD c []) j.1 || Nat.beq c j.1 || passOk cf ops (onth ops.toList j.1) (onth ops.toList c)))
noncomputable def pairsW (cf : Cfg) (ops : Array Oper) (T : List (List Nat)) : List (Nat × List Nat) → Bool
  | [] => true
  | j :: r => r.all (okW cf ops T j) && pairsW cf ops T r
noncomputable def drawOk1 (cf : Cfg) (ops : Array Oper) (ord : List Nat) : Bool :=
  (grp ops.size ord).1.isEmpty && Nat.ble (grp ops.size ord).2.length ops.size && pairsW cf ops (preT ops.toList) (grp ops.size ord).2 && (grp ops.size ord).2.all (fun i => Nat.blt i.1 ops.size && monoOk cf (onth ops.toList i.1)) &&
  (List.range ops.size).all (fun i => nmem ((grp ops.size ord).2.map (·.1)) i) &&
  (ops.toList.zipIdx).all fun p => (edges p.1).all fun j => Nat.blt j p.2
noncomputable def drawOk2 (cf : Cfg) (ops : Array Oper) (pre : List Nat) (x : Nat) (xs : List Nat) (y : Nat) (ys : List Nat) : Bool :=
  Nat.ble (pre ++ x :: xs).length ops.size && Nat.ble (pre ++ y :: ys).length ops.size && (pre ++ x :: xs).all (fun i => Nat.blt i ops.size) && (List.range ops.size).all (fun i => nmem (pre ++ x :: xs) i) &&
  ((ops.toList.zipIdx).all fun p => (edges p.1).all fun j => Nat.blt j p.2) && !Nat.beq x y && !nmem xs x && !nmem ys y && (x :: xs).all (nmem (y :: ys)) && (y :: ys).all (nmem (x :: xs)) &&
  pairsB cf ops (preT ops.toList) (pre ++ xs) && pairsB cf ops (preT ops.toList) (pre ++ ys) && pre.all (fun j => okB cf ops (preT ops.toList) j x && okB cf ops (preT ops.toList) j y) &&
  xs.all (fun m => Nat.beq m y || nmem ((preT ops.toList).getD m []) x || nmem ((preT ops.toList).getD m []) y)
noncomputable def drawOk3 (cf : Cfg) (ops : Array Oper) (pre rem : List Nat) : Bool :=
  Nat.ble (pre ++ rem).length ops.size && (pre ++ rem).all (fun i => Nat.blt i ops.size) && (List.range ops.size).all (fun i => nmem (pre ++ rem) i) &&
  ((ops.toList.zipIdx).all fun p => (edges p.1).all fun j => Nat.blt j p.2) && pairsB cf ops (preT ops.toList) pre && pre.all (fun j => rem.all (okB cf ops (preT ops.toList) j))
noncomputable def drawOk (cf : Cfg) (ops : Array Oper) (ord : List Nat) : Bool := match postM ops.size ord with
  | none => drawOk1 cf ops ord
  | some r => match preM ops.size r with
    | x :: xs => match postM ops.size r with
      | some (y :: ys) => drawOk2 cf ops (preM ops.size ord) x xs y ys
      | _ => false
    | [] => match postM ops.size r with
      | some y => drawOk3 cf ops (preM ops.size ord) y
      | none => false
theorem pairsB_pw {cf : Cfg} {ops : Array Oper} {T : List (List Nat)} : ∀ {l : List Nat}, pairsB cf ops T l = true → l.Pairwise fun j i => okB cf ops T j i = true
  | [], _ => .nil
  | j :: r, h => by
    simp only [pairsB, Bool.and_eq_true] at h
    exact .cons (fun i hi => List.all_eq_true.1 h.1 i hi) (pairsB_pw h.2)
theorem pairsW_pw {cf : Cfg} {ops : Array Oper} {T : List (List Nat)} : ∀ {l : List (Nat × List Nat)}, pairsW cf ops T l = true → l.Pairwise fun j i => okW cf ops T j i = true
  | [], _ => .nil
  | j :: r, h => by
    simp only [pairsW, Bool.and_eq_true] at h
    exact .cons (fun i hi => List.all_eq_true.1 h.1 i hi) (pairsW_pw h.2)
theorem onth_eq : ∀ (l : List Oper) (i : Nat), onth l i = l.getD i default
  | [], _ => rfl
  | x :: xs, 0 => rfl
  | x :: xs, n + 1 => (onth_eq xs n).trans (by simp)
section
variable {P : Program} {cf : Cfg} {b : Base} {fz : Fz} {k : K} {ops : Array Oper} {Q : Exit → Act → World → Prop} {ord : List Nat}
def Closed (ops : Array Oper) (listed : Array Bool) : Prop := ∀ i o, listed.getD i false = true → ops[i]? = some o → ∀ j, j ∈ edges o → listed.getD j false = true
theorem Closed.path {listed : Array Bool} (hc : Closed ops listed) {i j : Nat} (hp : Path ops i j) : (∀ o, ops[i]? = some o → ∀ j, j ∈ edges o → listed.getD j false = true) → listed.getD j false = true := by
  induction hp with
  | edge ho h => exact fun hr => hr _ ho _ h
  | @step i j m o ho h hp ih =>
    intro hr
    exact ih fun o' ho' j' hj' => hc m o' (hr _ ho _ h) ho' j' hj'
end
end Am
set_option linter.unusedVariables false
set_option linter.unusedSimpArgs false
namespace Am
open Go
section
variable {P : Program} {cf : Cfg} {b : Base} {fz : Fz} {k : K} {ops : Array Oper} {Q : Exit → Act → World → Prop} {ord : List Nat}
theorem ready_mem {listed : Array Bool} (hsz : listed.size = ops.size) {i : Nat} : i ∈ Region.ready .any ops listed ↔ ∃ o, ops[i]? = some o ∧ listed.getD i false = false ∧ ∀ j, j ∈ edges o → listed.getD j false = true := by
  unfold Region.ready edges
  simp only [List.mem_filter, List.mem_range, Bool.and_eq_true, Bool.not_eq_true']
  constructor
  · rintro ⟨h1, h2, h3⟩
    obtain ⟨o, ho⟩ : ∃ o, ops[i]? = some o := ⟨ops[i], by simp [h1]⟩
    refine ⟨o, ho, ?_, fun j hj => ?_⟩
    · simpa [Array.getD_eq_getD_getElem?, show i < listed.size by omega] using h2
    · rw [ho] at h3
      simp only [Option.map_some, Option.getD_some] at h3
      simp only [List.mem_map, List.mem_filter, Array.mem_toList_iff] at hj
      obtain ⟨ed, ⟨h4, h5⟩, rfl⟩ := hj
      have := Array.all_eq_true'.1 h3 ed h4
      simpa [h5] using this
  · rintro ⟨o, ho, h2, h3⟩
    have h1 : i < ops.size := (Array.getElem?_eq_some_iff.1 ho).1
    refine ⟨h1, ?_, ?_⟩
    · simpa [Array.getD_eq_getD_getElem?, show i < listed.size by omega] using h2
    · rw [ho]
      simp only [Option.map_some, Option.getD_some]
      refine Array.all_eq_true'.2 fun ed hed => ?_
      cases hb : Region.binds .any ed with
      | false => simp
      | true =>
        have := h3 ed.on (List.mem_map_of_mem (by simp [hed, hb]))
        simp [this]
theorem getD_setI {listed : Array Bool} {i x : Nat} (hi : i < listed.size) : (listed.setIfInBounds i true).getD x false = if x = i then true else listed.getD x false := by
  simp only [Array.getD_eq_getD_getElem?, Array.getElem?_setIfInBounds]
  by_cases h : i = x
  · subst h; simp [hi]
  · simp [h, Ne.symm h]
theorem Kept.undraw {env env' : Env} {loc loc' : Loc} {d : Bool} {gg : List Nat} (h : Kept ⟨fz.t, fz.l, fz.a, d, gg⟩ env env' loc loc') : Kept fz env env' loc loc' := ⟨h.len, h.env, h.vars, h.keys, h.lens⟩
theorem ops_append {ops : Array Oper} : ∀ (l1 l2 : List Oper), awpOps P cf fz ops (l1 ++ l2) k = awpOps P cf fz ops l1 (awpOps P cf fz ops l2 k)
  | [], l2 => rfl
  | o :: l1, l2 => by rw [List.cons_append, awpOps_cons, awpOps_cons, ops_append l1 l2]
theorem ops_mono (hd : fz.d = true) {i : Oper} : ∀ {l : List Oper} {k k' : K} {env : Env} {loc : Loc} {h : Heap}, (∀ j, j ∈ l → pairOk cf ops j i = true) → (∀ env loc h, k env loc h → k' env loc h) →
    awpOps P cf fz ops l k env loc h → awpOps P cf fz ops l k' env loc h
  | [], k, k', env, loc, h, _, hi, hk => hi _ _ _ hk
  | j :: l, k, k', env, loc, h, hp, hi, hk => by
    have hk1 : awpOne P cf fz ops j (awpOps P cf fz ops l k) env loc h := hk
    exact pair_mono hd (hp j (by simp)) (fun env loc h hk => ops_mono hd (fun j hj => hp j (by simp [hj])) hi hk) hk1
theorem pull_any (hd : fz.d = true) {i : Oper} {r1 r2 : List Oper} {env : Env} {loc : Loc} {h : Heap} {k' : K} (hp : ∀ j, j ∈ r1 → pairOk cf ops j i = true)
    (hi : ∀ env loc h, k env loc h → awpOps P cf fz ops (i :: r2) k' env loc h) (hk : awpOps P cf fz ops r1 k env loc h) : awpOne P cf fz ops i (awpOps P cf fz ops (r1 ++ r2) k') env loc h := by
  refine pull hd hp ?_
  rw [ops_append]
  exact ops_mono hd hp hi hk
theorem onth_of {i : Nat} {o : Oper} (ho : ops[i]? = some o) : onth ops.toList i = o := by
  rw [onth_eq]; simp [List.getD_eq_getElem?_getD, ho]
theorem okB_pair {listed : Array Bool} (hc : Closed ops listed) {i m : Nat} {o : Oper} (ho : ops[i]? = some o) (h3 : ∀ j, j ∈ edges o → listed.getD j false = true) (hm : listed.getD m false = false)
    (hk : okB cf ops (preT ops.toList) m i = true) : pairOk cf ops (onth ops.toList m) o = true := by
  simp only [okB, Bool.and_eq_true, Bool.or_eq_true] at hk
  rw [onth_of ho] at hk
  refine hk.2.resolve_left fun hp => ?_
  have hp := preT_path (ops := ops) ops.toList [] [] (by simp) rfl (fun i j h => by simp at h) i m ((nmem_eq _ _).1 hp)
  have hl := hc.path hp (fun o' ho' => by rw [ho] at ho'; cases ho'; exact h3)
  rw [hl] at hm; cases hm
theorem beq_ne {i j : Nat} (h : Nat.beq i j = false) : i ≠ j := fun e => by
  subst e
  have : Nat.beq i i = true := Nat.beq_refl i
  rw [h] at this; cases this
theorem okB_ne {T : List (List Nat)} {i j : Nat} (h : okB cf ops T j i = true) : j ≠ i := by
  rintro rfl; simp [okB] at h
theorem ready_none {listed : Array Bool} (hsz : listed.size = ops.size) (hedge : ∀ i o, ops[i]? = some o → ∀ j, j ∈ edges o → j < i) (hrd : Region.ready .any ops listed = []) : ∀ i, i < ops.size → listed.getD i false = true := by
  intro i hi
  cases hl : listed.getD i false with
  | true => rfl
  | false =>
    obtain ⟨n, ⟨n1, n2⟩, n3⟩ := exists_least (p := fun x => x < ops.size ∧ listed.getD x false = false) ⟨i, hi, hl⟩
    have hn : n ∈ Region.ready .any ops listed := (ready_mem hsz).2 ⟨ops[n], by simp [n1], n2, fun j hj => by
      have hj' := hedge n ops[n] (by simp [n1]) j hj
      cases hb : listed.getD j false with
      | true => rfl
      | false => have := n3 j ⟨by omega, hb⟩; omega⟩
    rw [hrd] at hn; cases hn
theorem closed_set {listed : Array Bool} (hsz : listed.size = ops.size) (hc : Closed ops listed) {i : Nat} {o : Oper} (ho : ops[i]? = some o) (h3 : ∀ j, j ∈ edges o → listed.getD j false = true) : Closed ops (listed.setIfInBounds i true) := by
  have hi' : i < listed.size := by have := (Array.getElem?_eq_some_iff.1 ho).1; omega
  intro x o' hx ho' j hj
  rw [getD_setI hi'] at hx ⊢
  split
  · rfl
  · by_cases e : x = i
    · subst e; rw [ho] at ho'; cases ho'; exact h3 j hj
    · rw [if_neg e] at hx; exact hc x o' hx ho' j hj
theorem left_set {listed : Array Bool} (hsz : listed.size = ops.size) {i : Nat} (hi : i < ops.size) {l l' : List Nat} (hl : ∀ x, x ∈ l ↔ x < ops.size ∧ listed.getD x false = false) (hl' : ∀ x, x ∈ l' ↔ x ∈ l ∧ x ≠ i) :
    ∀ x, x ∈ l' ↔ x < ops.size ∧ (listed.setIfInBounds i true).getD x false = false := by
  intro x
  rw [hl', hl, getD_setI (by omega)]
  by_cases e : x = i
  · simp [e]
  · simp [e]
theorem one_mono (hd : fz.d = true) {o : Oper} (hm : monoOk cf o = true) {k k' : K} {env : Env} {loc : Loc} {h : Heap} (hi : ∀ env loc h, k env loc h → k' env loc h) (hk : awpOne P cf fz ops o k env loc h) : awpOne P cf fz ops o k' env loc h := by
  by_cases hL : isL cf o = true
  · have hg : o.guard = none := by
      simp only [monoOk, hL, Bool.not_true, Bool.false_or, Option.isNone_iff_eq_none] at hm
      exact hm
    obtain ⟨d, cs, a1, a2, a3, hy, hback⟩ := L_elim hd hL hg hk
    exact hback env loc h k' (fun _ _ => rfl) a2 a3 (hi _ _ _ hy)
  · rw [one_semG hd (by simpa using hL)] at hk ⊢
    refine semG_mono (fun y loc h hk => ?_) hk
    obtain ⟨hk, hm⟩ := putK_elim hk
    exact putK_intro hm (hi _ _ _ hk)
theorem putE_some {gs : List Nat} {env : Env} {d : Nat} {y : TV} (hg : nmem gs d = false) : putE gs env (some d) y = env.set d y := by
  unfold putE nrm; simp only; rw [hg]
theorem set_of_nth {env : Env} {d : Nat} {x y : TV} (h : nth (env.set d x) d = nth (env.set d y) d) : env.set d x = env.set d y := by
  by_cases hl : d < env.length
  · rw [nth_set, nth_set, if_pos ⟨rfl, hl⟩, if_pos ⟨rfl, hl⟩] at h; rw [h]
  · rw [List.set_eq_of_length_le (by omega), List.set_eq_of_length_le (by omega)]
theorem chkD_eq {o : Oper} {d : Nat} (hdst : o.dst = some d) {env : Env} {loc : Loc} {h : Heap} : chkD P cf fz ops o env loc h = awpOne P cf fz ops o (fun env2 _ _ => nth env2 d = nth env d) env loc h := by
  unfold chkD; rw [hdst]; rfl
theorem exch_chk (hd : fz.d = true) (hgd : fz.g = cf.gds) {i j : Oper} (hp : chkPair cf ops j i = true) {k : K} {env : Env} {loc : Loc} {h : Heap}
    (hk : awpOne P cf fz ops j (awpOne P cf fz ops i (fun env loc h => chkD P cf fz ops j env loc h ∧ k env loc h)) env loc h) : awpOne P cf fz ops i (awpOne P cf fz ops j k) env loc h := by
  simp only [chkPair, Bool.and_eq_true, Bool.not_eq_true'] at hp
  obtain ⟨⟨⟨⟨⟨⟨⟨hj, hLj⟩, hLi⟩, n1⟩, n2⟩, n3⟩, n4⟩, n5⟩ := hp
  have n1 := notIn_eq n1
  have n2 := notIn_eq n2
  have n3 := notDst_eq n3
  have n4 := notIn_eq n4
  cases hdst : j.dst with
  | none => rw [hdst] at n5; cases n5
  | some d =>
  rw [hdst] at n5
  have hg : nmem fz.g d = false := by rw [hgd]; simpa using n5
  rw [one_semG hd hLj, semG_like hj] at hk
  obtain ⟨y, hy, hback⟩ := semG_det hj _ hk
  obtain ⟨hy, hm1⟩ := putK_elim hy
  rw [one_semG hd hLi, semG_congr (e' := ev env) (fun x hx => ev_putE (fun d hd => n1 d hd x hx))] at hy
  rw [one_semG hd hLi]
  refine semG_mono (fun z loc' h' hz => ?_) hy
  obtain ⟨hz, hm2⟩ := putK_elim hz
  refine putK_intro hm2 ?_
  obtain ⟨hc, hk2⟩ := hz
  rw [putE_comm (fun a ha => fun e => n3 a (by rw [e]) ha)] at hc hk2
  rw [chkD_eq hdst, one_semG hd hLj, semG_like hj] at hc
  obtain ⟨y', hy', hback'⟩ := semG_det hj _ hc
  obtain ⟨hy', hm1'⟩ := putK_elim hy'
  rw [one_semG hd hLj, semG_like hj, ← semG_congr (e := ev (putE fz.g (putE fz.g env i.dst z) j.dst y)) (fun x hx => ev_putE (fun d hd => n4 d hd x hx))]
  refine hback' _ (putK_intro hm1' ?_)
  rw [hdst, putE_some hg, putE_some hg, List.set_set] at hy'
  have := set_of_nth hy'
  rw [hdst, putE_some hg] at hk2 ⊢
  rw [this]; exact hk2
theorem chk_put (hd : fz.d = true) {j c : Oper} (hp : passOk cf ops j c = true) {env : Env} {loc : Loc} {h : Heap} {y : TV} (hk : chkD P cf fz ops c (putE fz.g env j.dst y) loc h) : chkD P cf fz ops c env loc h := by
  simp only [passOk, Bool.and_eq_true, Bool.not_eq_true'] at hp
  obtain ⟨⟨⟨⟨⟨hj, hLj⟩, hLc⟩, hc⟩, n1⟩, n3⟩ := hp
  have n1 := notIn_eq n1
  have n3 := notDst_eq n3
  cases hdst : c.dst with
  | none => unfold chkD at hk; rw [hdst] at hk; exact (show False from hk).elim
  | some d =>
  rw [chkD_eq hdst, one_semG hd hLc] at hk ⊢
  rw [semG_congr (e' := ev env) (fun x hx => ev_putE (fun d hd => n1 d hd x hx))] at hk
  refine semG_mono (fun z loc' h' hz => ?_) hk
  obtain ⟨hz, hm2⟩ := putK_elim hz
  refine putK_intro hm2 ?_
  have hne : ∀ a, j.dst = some a → a ≠ d := fun a ha e => n3 a ha (by rw [hdst, e])
  have e1 : ∀ E : Env, nth (putE fz.g E j.dst y) d = nth E d := fun E => ev_putE (x := .tmp d) (gs := fz.g) (dst := j.dst) (env := E) (y := y) (fun a ha e => hne a ha (by cases e; rfl))
  rw [e1, putE_comm (fun a ha e => n3 _ e (by rw [ha])), e1] at hz
  exact hz
theorem chk_out (hd : fz.d = true) {j : Oper} (hj : like cf j = true) (hLj : isL cf j = false) {k : K} {env : Env} {loc : Loc} {h : Heap} {A : Env → Loc → Heap → Prop} (hA : ∀ y, A (putE fz.g env j.dst y) loc h → A env loc h)
    (hk : awpOne P cf fz ops j (fun env loc h => A env loc h ∧ k env loc h) env loc h) : A env loc h ∧ awpOne P cf fz ops j k env loc h := by
  rw [one_semG hd hLj, semG_like hj] at hk ⊢
  obtain ⟨y, hy, hback⟩ := semG_det hj _ hk
  obtain ⟨hy, hm1⟩ := putK_elim hy
  exact ⟨hA y hy.1, hback _ (putK_intro hm1 hy.2)⟩
def awpW (P : Program) (cf : Cfg) (fz : Fz) (ops : Array Oper) : List (Nat × List Nat) → K → K
  | [], k => k
  | i :: r, k => awpOne P cf fz ops (onth ops.toList i.1) fun env loc h => (∀ c, c ∈ i.2 → chkD P cf fz ops (onth ops.toList c) env loc h) ∧ awpW P cf fz ops r k env loc h
theorem awpL_W (hd : fz.d = true) : ∀ {l : List Nat} {env : Env} {loc : Loc} {h : Heap}, (∀ i, i ∈ (grp ops.size l).2 → monoOk cf (onth ops.toList i.1) = true) → awpL P cf fz ops l k env loc h →
    (∀ c, c ∈ (grp ops.size l).1 → chkD P cf fz ops (onth ops.toList c) env loc h) ∧ awpW P cf fz ops (grp ops.size l).2 k env loc h
  | [], env, loc, h, _, hk => ⟨fun c hc => by simp [grp] at hc, hk⟩
  | c :: r, env, loc, h, hm, hk => by
    have hk' : (match Nat.blt ops.size c with
      | true => chkD P cf fz ops (onth ops.toList (Nat.sub c (Nat.succ ops.size))) env loc h ∧ awpL P cf fz ops r k env loc h
      | false => awpOne P cf fz ops (onth ops.toList c) (awpL P cf fz ops r k) env loc h) := hk
    unfold grp at hm ⊢
    cases hb : Nat.blt ops.size c with
    | true =>
      rw [hb] at hk' hm
      simp only at hk' hm ⊢
      obtain ⟨h1, h2⟩ := awpL_W hd hm hk'.2
      refine ⟨fun x hx => ?_, h2⟩
      rcases List.mem_cons.1 hx with rfl | hx
      · exact hk'.1
      · exact h1 x hx
    | false =>
      rw [hb] at hk' hm
      simp only at hk' hm ⊢
      refine ⟨fun x hx => (by cases hx), ?_⟩
      exact one_mono hd (hm (c, (grp ops.size r).1) (by simp)) (fun env loc h hk => awpL_W hd (fun i hi => hm i (by simp [hi])) hk) hk'
theorem pullW (hd : fz.d = true) (hgd : fz.g = cf.gds) {i : Nat} (hmi : monoOk cf (onth ops.toList i) = true) : ∀ {r1 r2 : List (Nat × List Nat)} {cs : List Nat} {env : Env} {loc : Loc} {h : Heap}, (r1.map (·.1)).Nodup →
    (∀ s1 j s2, r1 = s1 ++ j :: s2 → monoOk cf (onth ops.toList j.1) = true ∧ j.2 = [] ∧ (j.1 ∈ cs ∨ pairOk cf ops (onth ops.toList j.1) (onth ops.toList i) = true) ∧ (j.1 ∈ cs → chkPair cf ops (onth ops.toList j.1) (onth ops.toList i) = true) ∧ ∀ c, c ∈ cs → c ∈ s2.map (·.1) ∨ c = j.1 ∨ passOk cf ops (onth ops.toList j.1) (onth ops.toList c) = true) →
    awpW P cf fz ops (r1 ++ (i, cs) :: r2) k env loc h →
    awpOne P cf fz ops (onth ops.toList i) (fun env loc h => (∀ c, c ∈ cs → ¬ c ∈ r1.map (·.1) → chkD P cf fz ops (onth ops.toList c) env loc h) ∧ awpW P cf fz ops (r1 ++ r2) k env loc h) env loc h
  | [], r2, cs, env, loc, h, _, _, hk => one_mono hd hmi (fun env loc h hk => ⟨fun c hc _ => hk.1 c hc, hk.2⟩) hk
  | (j, cj) :: r1, r2, cs, env, loc, h, hnd, hp, hk => by
    obtain ⟨m1, m2, m3, m4, m5⟩ := hp [] (j, cj) r1 rfl
    simp only at m1 m2 m3 m4 m5
    subst m2
    rw [List.map_cons] at hnd
    have hnd' := List.nodup_cons.1 hnd
    have hk1 : awpOne P cf fz ops (onth ops.toList j) (fun env loc h => (∀ c, c ∈ ([] : List Nat) → chkD P cf fz ops (onth ops.toList c) env loc h) ∧ awpW P cf fz ops (r1 ++ (i, cs) :: r2) k env loc h) env loc h := hk
    have hk2 := one_mono hd m1 (fun env loc h hk => pullW hd hgd hmi hnd'.2 (fun s1 j' s2 e => hp ((j, []) :: s1) j' s2 (by rw [e]; rfl)) hk.2) hk1
    have key : awpOne P cf fz ops (onth ops.toList i) (awpOne P cf fz ops (onth ops.toList j) (fun env loc h => (∀ c, c ∈ cs → ¬ c ∈ ((j, ([] : List Nat)) :: r1).map (·.1) → chkD P cf fz ops (onth ops.toList c) env loc h) ∧ awpW P cf fz ops (r1 ++ r2) k env loc h)) env loc h := by
      by_cases hj : j ∈ cs
      · refine exch_chk hd hgd (m4 hj) (one_mono hd m1 (fun env loc h hk => one_mono hd hmi (fun env loc h hk => ?_) hk) hk2)
        exact ⟨hk.1 j hj hnd'.1, fun c hc hn => hk.1 c hc (fun e => hn (by rw [List.map_cons]; exact List.mem_cons_of_mem _ e)), hk.2⟩
      · refine pair_exch hd (m3.resolve_left hj) (one_mono hd m1 (fun env loc h hk => one_mono hd hmi (fun env loc h hk => ?_) hk) hk2)
        exact ⟨fun c hc hn => hk.1 c hc (fun e => hn (by rw [List.map_cons]; exact List.mem_cons_of_mem _ e)), hk.2⟩
    refine one_mono hd hmi (fun env loc h hk => ?_) key
    have m6 : ∀ c, c ∈ cs → ¬ c ∈ ((j, ([] : List Nat)) :: r1).map (·.1) → passOk cf ops (onth ops.toList j) (onth ops.toList c) = true := fun c hc hn => by
      rcases m5 c hc with e | e | e
      · exact absurd (by rw [List.map_cons]; exact List.mem_cons_of_mem _ e) hn
      · exact absurd (by rw [e]; simp) hn
      · exact e
    have fin : (∀ c, c ∈ cs → ¬ c ∈ ((j, ([] : List Nat)) :: r1).map (·.1) → chkD P cf fz ops (onth ops.toList c) env loc h) ∧ awpOne P cf fz ops (onth ops.toList j) (awpW P cf fz ops (r1 ++ r2) k) env loc h := by
      by_cases hc : ∃ c, c ∈ cs ∧ ¬ c ∈ ((j, ([] : List Nat)) :: r1).map (·.1)
      · obtain ⟨c, hc, hne⟩ := hc
        have := m6 c hc hne
        simp only [passOk, Bool.and_eq_true, Bool.not_eq_true'] at this
        exact chk_out hd this.1.1.1.1.1 this.1.1.1.1.2 (fun y hA c hc hn => chk_put hd (m6 c hc hn) (hA c hc hn)) hk
      · exact ⟨fun c hc' hn => absurd ⟨c, hc', hn⟩ hc, one_mono hd m1 (fun _ _ _ hk => hk.2) hk⟩
    exact ⟨fin.1, one_mono hd m1 (fun _ _ _ hk => ⟨fun c hc => (by cases hc), hk⟩) fin.2⟩
theorem draw_core (HT : TabOk P cf) (hedge : ∀ i o, ops[i]? = some o → ∀ j, j ∈ edges o → j < i) :
    ∀ (fuel : Nat) (listed : Array Bool) (rem : List Nat) {env : Env} {loc : Loc} {h : Heap} {a : Act} {w : World} {C : Cx} {β : Nat → Option Nat}, listed.size = ops.size → Closed ops listed → (∀ x, x ∈ rem ↔ x < ops.size ∧ listed.getD x false = false) →
      (rem.Pairwise fun j i => okB cf ops (preT ops.toList) j i = true) → rem.length ≤ fuel →
      SR b env loc h a w C β → FzOk fz env → awpOps P cf ⟨fz.t, fz.l, fz.a, true, cf.gds⟩ ops (rem.map (onth ops.toList)) k env loc h →
      (∀ a w, Next b fz env loc k a w → Q .normal a w) → wpAny P .any ops Q fuel listed a w := by
  intro fuel
  induction fuel with
  | zero =>
    intro listed rem env loc h a w C β hsz hc hrem hpw hf H hfz hk hq
    have hr : rem = [] := List.eq_nil_of_length_eq_zero (by omega)
    subst hr
    refine ⟨?_, hq a w ⟨env, loc, h, C, β, H, Kept.refl _ _ _, hk⟩⟩
    rw [List.eq_nil_iff_forall_not_mem]
    intro i hi
    obtain ⟨o, ho, h2, h3⟩ := (ready_mem hsz).1 hi
    have := (hrem i).2 ⟨(Array.getElem?_eq_some_iff.1 ho).1, h2⟩
    cases this
  | succ fuel ih =>
    intro listed rem env loc h a w C β hsz hc hrem hpw hf H hfz hk hq
    refine ⟨fun hrd => ?_, fun i hi => ?_⟩
    · have hr : rem = [] := by
        rw [List.eq_nil_iff_forall_not_mem]
        intro i hi
        obtain ⟨i1, i2⟩ := (hrem i).1 hi
        rw [ready_none hsz hedge hrd i i1] at i2; cases i2
      subst hr
      exact hq a w ⟨env, loc, h, C, β, H, Kept.refl _ _ _, hk⟩
    · obtain ⟨o, ho, h2, h3⟩ := (ready_mem hsz).1 hi
      have hil := (Array.getElem?_eq_some_iff.1 ho).1
      obtain ⟨r1, r2, hr⟩ := List.append_of_mem ((hrem i).2 ⟨hil, h2⟩)
      subst hr
      obtain ⟨p1, p2, p3⟩ := List.pairwise_append.1 hpw
      rw [List.map_append, List.map_cons, onth_of ho] at hk
      have hk2 := pull (fz := ⟨fz.t, fz.l, fz.a, true, cf.gds⟩) rfl (fun j hj => by
        obtain ⟨m, hm, rfl⟩ := List.mem_map.1 hj
        exact okB_pair hc ho h3 ((hrem m).1 (by simp [hm])).2 (p3 m hm i (by simp))) hk
      refine wpOp_mono (fun a w hn => ?_) (one_sound (fz := ⟨fz.t, fz.l, fz.a, true, cf.gds⟩) HT H hfz ho hk2)
      obtain ⟨env', loc', h', C', β', H', K', hk3⟩ := hn
      have hne : ∀ x, x ∈ r1 ++ r2 → x ≠ i := by
        intro x hx
        rcases List.mem_append.1 hx with hx | hx
        · exact okB_ne (p3 x hx i (by simp))
        · exact fun e => okB_ne ((List.pairwise_cons.1 p2).1 x hx) e.symm
      refine ih (listed.setIfInBounds i true) (r1 ++ r2) (by simpa using hsz) (closed_set hsz hc ho h3) (left_set hsz hil hrem fun x => ?_) ?_ (by simp at hf ⊢; omega) H' (hfz.kept K'.undraw) (by rw [List.map_append]; exact hk3) (fun a w hn => hq a w (Next.kept K'.undraw hn))
      · constructor
        · intro hx
          refine ⟨?_, hne x hx⟩
          simp only [List.mem_append, List.mem_cons] at hx ⊢
          rcases hx with hx | hx
          · exact .inl hx
          · exact .inr (.inr hx)
        · rintro ⟨hx, hn⟩
          simp only [List.mem_append, List.mem_cons] at hx ⊢
          rcases hx with hx | hx | hx
          · exact .inl hx
          · exact absurd hx hn
          · exact .inr hx
      · exact List.pairwise_append.2 ⟨p1, (List.pairwise_cons.1 p2).2, fun x hx y hy => p3 x hx y (by simp [hy])⟩
theorem draw_coreW (HT : TabOk P cf) (hedge : ∀ i o, ops[i]? = some o → ∀ j, j ∈ edges o → j < i) :
    ∀ (fuel : Nat) (listed : Array Bool) (rem : List (Nat × List Nat)) {env : Env} {loc : Loc} {h : Heap} {a : Act} {w : World} {C : Cx} {β : Nat → Option Nat}, listed.size = ops.size → Closed ops listed → (∀ x, x ∈ rem.map (·.1) ↔ x < ops.size ∧ listed.getD x false = false) →
      (rem.Pairwise fun j i => okW cf ops (preT ops.toList) j i = true) → (∀ j, j ∈ rem → monoOk cf (onth ops.toList j.1) = true) → rem.length ≤ fuel →
      SR b env loc h a w C β → FzOk fz env → awpW P cf ⟨fz.t, fz.l, fz.a, true, cf.gds⟩ ops rem k env loc h →
      (∀ a w, Next b fz env loc k a w → Q .normal a w) → wpAny P .any ops Q fuel listed a w := by
  have okne : ∀ {j i : Nat × List Nat}, okW cf ops (preT ops.toList) j i = true → j.1 ≠ i.1 := fun h => by
    simp only [okW, Bool.and_eq_true, Bool.not_eq_true'] at h
    exact beq_ne h.1.1.1
  intro fuel
  induction fuel with
  | zero =>
    intro listed rem env loc h a w C β hsz hc hrem hpw hmo hf H hfz hk hq
    have hr : rem = [] := List.eq_nil_of_length_eq_zero (by omega)
    subst hr
    refine ⟨?_, hq a w ⟨env, loc, h, C, β, H, Kept.refl _ _ _, hk⟩⟩
    rw [List.eq_nil_iff_forall_not_mem]
    intro i hi
    obtain ⟨o, ho, h2, h3⟩ := (ready_mem hsz).1 hi
    have := (hrem i).2 ⟨(Array.getElem?_eq_some_iff.1 ho).1, h2⟩
    cases this
  | succ fuel ih =>
    intro listed rem env loc h a w C β hsz hc hrem hpw hmo hf H hfz hk hq
    refine ⟨fun hrd => ?_, fun i hi => ?_⟩
    · have hr : rem = [] := by
        rw [List.eq_nil_iff_forall_not_mem]
        intro i hi
        obtain ⟨i1, i2⟩ := (hrem i.1).1 (List.mem_map_of_mem hi)
        rw [ready_none hsz hedge hrd i.1 i1] at i2; cases i2
      subst hr
      exact hq a w ⟨env, loc, h, C, β, H, Kept.refl _ _ _, hk⟩
    · obtain ⟨o, ho, h2, h3⟩ := (ready_mem hsz).1 hi
      have hil := (Array.getElem?_eq_some_iff.1 ho).1
      obtain ⟨⟨i0, cs⟩, him, e0⟩ := List.mem_map.1 ((hrem i).2 ⟨hil, h2⟩)
      simp only at e0
      subst e0
      obtain ⟨r1, r2, hr⟩ := List.append_of_mem him
      subst hr
      obtain ⟨p1, p2, p3⟩ := List.pairwise_append.1 hpw
      have hnd : (r1.map (·.1)).Nodup := List.pairwise_map.2 (p1.imp fun h => okne h)
      have hk2 := pullW (fz := ⟨fz.t, fz.l, fz.a, true, cf.gds⟩) rfl rfl (hmo (i0, cs) (by simp)) hnd (fun s1 j s2 es => by
        have hj : j ∈ r1 := by rw [es]; simp
        have hok := p3 j hj (i0, cs) (by simp)
        simp only [okW, Bool.and_eq_true, Bool.or_eq_true, Bool.not_eq_true', List.isEmpty_iff] at hok
        have hun : listed.getD j.1 false = false := ((hrem j.1).1 (by simp only [List.map_append, List.mem_append]; exact .inl (List.mem_map_of_mem hj))).2
        have hnp : ¬ nmem ((preT ops.toList).getD i0 []) j.1 = true := fun hp => by
          have hp := preT_path (ops := ops) ops.toList [] [] (by simp) rfl (fun i j h => by simp at h) i0 j.1 ((nmem_eq _ _).1 hp)
          have hl := hc.path hp (fun o' ho' => by rw [ho] at ho'; cases ho'; exact h3)
          rw [hl] at hun; cases hun
        obtain ⟨⟨⟨q1, q2⟩, q3⟩, q4⟩ := hok.2.resolve_left hnp
        refine ⟨hmo j (by simp [hj]), q1, q2.imp (fun e => (nmem_eq _ _).1 e) id, fun hm => ?_, fun c hcs => ?_⟩
        · rcases q3 with e | e
          · rw [(nmem_eq _ _).2 hm] at e; cases e
          · exact e
        · have := List.all_eq_true.1 q4 c hcs
          simp only [Bool.or_eq_true] at this
          rcases this with (e | e) | e
          · have hpt := preT_path (ops := ops) ops.toList [] [] (by simp) rfl (fun i j h => by simp at h) c j.1 ((nmem_eq _ _).1 e)
            have hcs2 : c < ops.size := by
              cases hpt with
              | edge ho' _ => exact (Array.getElem?_eq_some_iff.1 ho').1
              | step ho' _ _ => exact (Array.getElem?_eq_some_iff.1 ho').1
            have hcl : listed.getD c false = false := by
              cases hcc : listed.getD c false with
              | false => rfl
              | true =>
                have := hc.path hpt fun o' ho' j' hj' => hc c o' hcc ho' j' hj'
                rw [this] at hun; cases hun
            have hcm := (hrem c).2 ⟨hcs2, hcl⟩
            rw [List.map_append, List.map_cons, es, List.map_append, List.map_cons] at hcm
            have nocs : ¬ c ∈ r2.map (·.1) := fun hz => by
              obtain ⟨z, hz, e2⟩ := List.mem_map.1 hz
              have := (List.pairwise_cons.1 p2).1 z hz
              simp only [okW, Bool.and_eq_true, Bool.not_eq_true'] at this
              rw [e2, (nmem_eq _ _).2 hcs] at this
              exact absurd this.1.2 (by simp)
            have nic : c ≠ i0 := fun e2 => hnp (by rw [← e2]; exact e)
            have nos : ¬ c ∈ s1.map (·.1) := fun hz => by
              obtain ⟨z, hz, e2⟩ := List.mem_map.1 hz
              rw [es] at p1
              have := (List.pairwise_append.1 p1).2.2 z hz j (by simp)
              simp only [okW, Bool.and_eq_true, Bool.not_eq_true'] at this
              rw [e2, e] at this
              exact absurd this.1.1.2 (by simp)
            simp only [List.mem_append, List.mem_cons] at hcm
            rcases hcm with (h | h | h) | h | h
            · exact absurd h nos
            · exact .inr (.inl h)
            · exact .inl h
            · exact absurd h nic
            · exact absurd h nocs
          · exact .inr (.inl (Nat.eq_of_beq_eq_true e))
          · exact .inr (.inr e)) hk
      rw [onth_of ho] at hk2
      refine wpOp_mono (fun a w hn => ?_) (one_sound (fz := ⟨fz.t, fz.l, fz.a, true, cf.gds⟩) HT H hfz ho hk2)
      obtain ⟨env', loc', h', C', β', H', K', hk3⟩ := hn
      have hne : ∀ x, x ∈ r1 ++ r2 → x.1 ≠ i0 := by
        intro x hx
        rcases List.mem_append.1 hx with hx | hx
        · exact okne (p3 x hx (i0, cs) (by simp))
        · exact fun e => okne ((List.pairwise_cons.1 p2).1 x hx) e.symm
      refine ih (listed.setIfInBounds i0 true) (r1 ++ r2) (by simpa using hsz) (closed_set hsz hc ho h3) (left_set hsz hil hrem fun x => ?_) ?_ (fun j hj => hmo j ?_) (by simp at hf ⊢; omega) H' (hfz.kept K'.undraw) hk3.2 (fun a w hn => hq a w (Next.kept K'.undraw hn))
      · constructor
        · intro hx
          obtain ⟨z, hz, rfl⟩ := List.mem_map.1 hx
          refine ⟨?_, hne z hz⟩
          simp only [List.map_append, List.map_cons, List.mem_append, List.mem_cons] at hx ⊢
          rcases hx with hx | hx
          · exact .inl hx
          · exact .inr (.inr hx)
        · rintro ⟨hx, hn⟩
          simp only [List.map_append, List.map_cons, List.mem_append, List.mem_cons] at hx ⊢
          rcases hx with hx | hx | hx
          · exact .inl hx
          · exact absurd hx hn
          · exact .inr hx
      · exact List.pairwise_append.2 ⟨p1, (List.pairwise_cons.1 p2).2, fun x hx y hy => p3 x hx y (by simp [hy])⟩
      · simp only [List.mem_append, List.mem_cons] at hj ⊢
        rcases hj with h | h
        · exact .inl h
        · exact .inr (.inr h)
theorem draw_core2 (HT : TabOk P cf) (hedge : ∀ i o, ops[i]? = some o → ∀ j, j ∈ edges o → j < i) {x y : Nat} {xs ys : List Nat} (hxy : x ≠ y) (hx : ¬ x ∈ xs) (hy : ¬ y ∈ ys) (hsame : ∀ m, m ∈ x :: xs ↔ m ∈ y :: ys)
    (hr : ∀ m, m ∈ xs → m = y ∨ x ∈ (preT ops.toList).getD m [] ∨ y ∈ (preT ops.toList).getD m []) :
    ∀ (fuel : Nat) (listed : Array Bool) (pre : List Nat) {env : Env} {loc : Loc} {h : Heap} {a : Act} {w : World} {C : Cx} {β : Nat → Option Nat}, listed.size = ops.size → Closed ops listed → (∀ i, i ∈ pre ++ x :: xs ↔ i < ops.size ∧ listed.getD i false = false) →
      ((pre ++ xs).Pairwise fun j i => okB cf ops (preT ops.toList) j i = true) → ((pre ++ ys).Pairwise fun j i => okB cf ops (preT ops.toList) j i = true) → (∀ j, j ∈ pre → okB cf ops (preT ops.toList) j x = true ∧ okB cf ops (preT ops.toList) j y = true) →
      (pre ++ x :: xs).length ≤ fuel → (pre ++ y :: ys).length ≤ fuel →
      SR b env loc h a w C β → FzOk fz env → awpOps P cf ⟨fz.t, fz.l, fz.a, true, cf.gds⟩ ops (pre.map (onth ops.toList)) (fun env loc h => awpOps P cf ⟨fz.t, fz.l, fz.a, true, cf.gds⟩ ops ((x :: xs).map (onth ops.toList)) k env loc h ∧
        awpOps P cf ⟨fz.t, fz.l, fz.a, true, cf.gds⟩ ops ((y :: ys).map (onth ops.toList)) k env loc h) env loc h →
      (∀ a w, Next b fz env loc k a w → Q .normal a w) → wpAny P .any ops Q fuel listed a w := by
  intro fuel
  induction fuel with
  | zero => intro listed pre env loc h a w C β hsz hc hrem hpw hpw2 hp hf; simp at hf
  | succ fuel ih =>
    intro listed pre env loc h a w C β hsz hc hrem hpw hpw2 hp hf hf2 H hfz hk hq
    refine ⟨fun hrd => ?_, fun i hi => ?_⟩
    · obtain ⟨i1, i2⟩ := (hrem x).1 (by simp)
      rw [ready_none hsz hedge hrd x i1] at i2; cases i2
    obtain ⟨o, ho, h2, h3⟩ := (ready_mem hsz).1 hi
    have hil := (Array.getElem?_eq_some_iff.1 ho).1
    have him := (hrem i).2 ⟨hil, h2⟩
    have unl : ∀ m, m ∈ pre → listed.getD m false = false := fun m hm => ((hrem m).1 (by simp [hm])).2
    have nex : ∀ j, j ∈ pre → j ≠ x ∧ j ≠ y := fun j hj => ⟨okB_ne (hp j hj).1, okB_ne (hp j hj).2⟩
    have hyx : y ∈ xs := by
      rcases List.mem_cons.1 ((hsame y).2 (by simp)) with e | e
      · exact absurd e.symm hxy
      · exact e
    have fin : ∀ (l' : List Nat), (∀ t, t ∈ pre ++ l' ↔ t ∈ pre ++ x :: xs ∧ t ≠ i) → ((pre ++ l').Pairwise fun j i => okB cf ops (preT ops.toList) j i = true) → (pre ++ l').length ≤ fuel →
        wpOp P ops Q i (Next b ⟨fz.t, fz.l, fz.a, true, cf.gds⟩ env loc (awpOps P cf ⟨fz.t, fz.l, fz.a, true, cf.gds⟩ ops ((pre ++ l').map (onth ops.toList)) k)) a w → wpOp P ops Q i (wpAny P .any ops Q fuel (listed.setIfInBounds i true)) a w := by
      intro l' hz hz1 hz2 hw
      refine wpOp_mono (fun a w hn => ?_) hw
      obtain ⟨env', loc', h', C', β', H', K', hk3⟩ := hn
      exact draw_core HT hedge fuel (listed.setIfInBounds i true) (pre ++ l') (by simpa using hsz) (closed_set hsz hc ho h3) (left_set hsz hil hrem hz) hz1 hz2 H' (hfz.kept K'.undraw) hk3 (fun a w hn => hq a w (Next.kept K'.undraw hn))
    by_cases ix : i = x
    · subst ix
      refine fin xs (fun t => ?_) hpw (by simp at hf ⊢; omega) (one_sound (fz := ⟨fz.t, fz.l, fz.a, true, cf.gds⟩) HT H hfz ho ?_)
      · simp only [List.mem_append, List.mem_cons]
        constructor
        · rintro (h | h)
          · exact ⟨.inl h, (nex t h).1⟩
          · exact ⟨.inr (.inr h), fun e => hx (e ▸ h)⟩
        · rintro ⟨h | h | h, hn⟩
          · exact .inl h
          · exact absurd h hn
          · exact .inr h
      · rw [List.map_append]
        refine pull_any rfl (fun j hj => ?_) (fun env loc h hk => ?_) hk
        · obtain ⟨m, hm, rfl⟩ := List.mem_map.1 hj
          exact okB_pair hc ho h3 (unl m hm) (hp m hm).1
        · have := hk.1
          rw [List.map_cons, onth_of ho] at this
          exact this
    by_cases iy : i = y
    · subst iy
      refine fin ys (fun t => ?_) hpw2 (by simp at hf2 ⊢; omega) (one_sound (fz := ⟨fz.t, fz.l, fz.a, true, cf.gds⟩) HT H hfz ho ?_)
      · have hst := hsame t
        simp only [List.mem_cons] at hst
        simp only [List.mem_append, List.mem_cons]
        constructor
        · rintro (h | h)
          · exact ⟨.inl h, (nex t h).2⟩
          · exact ⟨.inr (hst.2 (.inr h)), fun e => hy (e ▸ h)⟩
        · rintro ⟨h | h, hn⟩
          · exact .inl h
          · exact .inr ((hst.1 h).resolve_left hn)
      · rw [List.map_append]
        refine pull_any rfl (fun j hj => ?_) (fun env loc h hk => ?_) hk
        · obtain ⟨m, hm, rfl⟩ := List.mem_map.1 hj
          exact okB_pair hc ho h3 (unl m hm) (hp m hm).2
        · have := hk.2
          rw [List.map_cons, onth_of ho] at this
          exact this
    by_cases ir : i ∈ xs
    · exfalso
      have hlst : ∀ z, z ∈ (preT ops.toList).getD i [] → z ∈ x :: xs → False := fun z hz hzm => by
        have hpth := preT_path (ops := ops) ops.toList [] [] (by simp) rfl (fun i j h => by simp at h) i z hz
        have hl := hc.path hpth (fun o' ho' => by rw [ho] at ho'; cases ho'; exact h3)
        rw [((hrem z).1 (by simp only [List.mem_append]; exact .inr hzm)).2] at hl; cases hl
      rcases hr i ir with e | e | e
      · exact iy e
      · exact hlst x e (by simp)
      · exact hlst y e (by simp [hyx])
    have ip : i ∈ pre := by
      simp only [List.mem_append, List.mem_cons] at him
      rcases him with h | h | h
      · exact h
      · exact absurd h ix
      · exact absurd h ir
    have iry : ¬ i ∈ ys := fun e => by
      rcases List.mem_cons.1 ((hsame i).2 (by simp [e])) with h | h
      · exact ix h
      · exact ir h
    obtain ⟨r1, r2, he⟩ := List.append_of_mem ip
    subst he
    obtain ⟨q1, q2, q3⟩ := List.pairwise_append.1 hpw
    obtain ⟨_, q2', q3'⟩ := List.pairwise_append.1 hpw2
    obtain ⟨s1, s2, s3⟩ := List.pairwise_append.1 q1
    rw [List.map_append, List.map_cons, onth_of ho] at hk
    have hk2 := pull (fz := ⟨fz.t, fz.l, fz.a, true, cf.gds⟩) rfl (fun j hj => by
      obtain ⟨m, hm, rfl⟩ := List.mem_map.1 hj
      exact okB_pair hc ho h3 (unl m (by simp [hm])) (s3 m hm i (by simp))) hk
    refine wpOp_mono (fun a w hn => ?_) (one_sound (fz := ⟨fz.t, fz.l, fz.a, true, cf.gds⟩) HT H hfz ho hk2)
    obtain ⟨env', loc', h', C', β', H', K', hk3⟩ := hn
    have up1 : ∀ u, u ∈ r1 ++ r2 → u ∈ r1 ++ i :: r2 := fun u hu => by
      simp only [List.mem_append, List.mem_cons] at hu ⊢
      rcases hu with h | h
      · exact .inl h
      · exact .inr (.inr h)
    have pw1 := List.pairwise_append.2 ⟨s1, (List.pairwise_cons.1 s2).2, fun u hu v hv => s3 u hu v (by simp [hv])⟩
    refine ih (listed.setIfInBounds i true) (r1 ++ r2) (by simpa using hsz) (closed_set hsz hc ho h3) (left_set hsz hil hrem fun t => ?_) ?_ ?_ (fun j hj => hp j (up1 j hj)) (by simp at hf ⊢; omega) (by simp at hf2 ⊢; omega) H' (hfz.kept K'.undraw) (by rw [List.map_append]; exact hk3) (fun a w hn => hq a w (Next.kept K'.undraw hn))
    · simp only [List.mem_append, List.mem_cons]
      constructor
      · rintro ((h | h) | h | h)
        · exact ⟨.inl (.inl h), okB_ne (s3 t h i (by simp))⟩
        · exact ⟨.inl (.inr (.inr h)), fun e => okB_ne ((List.pairwise_cons.1 s2).1 t h) e.symm⟩
        · exact ⟨.inr (.inl h), fun e => ix (e.symm.trans h)⟩
        · exact ⟨.inr (.inr h), fun e => ir (e ▸ h)⟩
      · rintro ⟨(h | h | h) | h | h, hn⟩
        · exact .inl (.inl h)
        · exact absurd h hn
        · exact .inl (.inr h)
        · exact .inr (.inl h)
        · exact .inr (.inr h)
    · exact List.pairwise_append.2 ⟨pw1, q2, fun u hu v hv => q3 u (up1 u hu) v hv⟩
    · exact List.pairwise_append.2 ⟨pw1, q2', fun u hu v hv => q3' u (up1 u hu) v hv⟩
theorem remE_mem {i x : Nat} : ∀ {l : List Nat}, x ∈ remE i l ↔ x ∈ l ∧ x ≠ i
  | [] => by simp [remE]
  | y :: l => by
    have ih := remE_mem (i := i) (x := x) (l := l)
    have e : remE i (y :: l) = match Nat.beq y i with | true => remE i l | false => y :: remE i l := rfl
    rw [e]
    cases hb : Nat.beq y i with
    | true =>
      have := Nat.eq_of_beq_eq_true hb
      subst this
      simp only [ih, List.mem_cons]
      constructor
      · exact fun h => ⟨.inr h.1, h.2⟩
      · rintro ⟨h | h, hn⟩
        · exact absurd h hn
        · exact ⟨h, hn⟩
    | false =>
      have hne : y ≠ i := beq_ne hb
      simp only [ih, List.mem_cons]
      constructor
      · rintro (h | h)
        · exact ⟨.inl h, h ▸ hne⟩
        · exact ⟨.inr h.1, h.2⟩
      · rintro ⟨h | h, hn⟩
        · exact .inl h
        · exact .inr ⟨h, hn⟩
theorem remE_le {i : Nat} : ∀ (l : List Nat), (remE i l).length ≤ l.length
  | [] => Nat.le_refl _
  | y :: l => by
    have e : remE i (y :: l) = match Nat.beq y i with | true => remE i l | false => y :: remE i l := rfl
    have ih := remE_le (i := i) l
    rw [e]
    cases Nat.beq y i <;> simp <;> omega
theorem remE_lt {i : Nat} : ∀ {l : List Nat}, i ∈ l → (remE i l).length < l.length
  | [], h => by cases h
  | y :: l, h => by
    have e : remE i (y :: l) = match Nat.beq y i with | true => remE i l | false => y :: remE i l := rfl
    rw [e]
    cases hb : Nat.beq y i with
    | true => have := remE_le (i := i) l; simp only [List.length_cons]; omega
    | false =>
      have hne : y ≠ i := beq_ne hb
      have h' : i ∈ l := (List.mem_cons.1 h).resolve_left fun e => hne e.symm
      have := remE_lt h'
      simp only [List.length_cons]; omega
theorem readyB_of {rem : List Nat} {i : Nat} (h : ∀ j, j ∈ edges (onth ops.toList i) → ¬ j ∈ rem) : readyB ops rem i = true := by
  unfold readyB
  revert h
  generalize edges (onth ops.toList i) = l
  intro h
  induction l with
  | nil => rfl
  | cons j l ih =>
    have hj : nmem rem j = false := by
      cases e : nmem rem j with
      | false => rfl
      | true => exact absurd ((nmem_eq _ _).1 e) (h j (by simp))
    show (match nmem rem j with | true => false | false => _) = true
    rw [hj]
    exact ih fun j hj => h j (by simp [hj])
theorem awpAll_pick {fz : Fz} {env : Env} {loc : Loc} {h : Heap} {n i : Nat} {rem : List Nat} (hi : i ∈ rem) (hr : readyB ops rem i = true) (hk : awpAll P cf fz ops k (n + 1) rem env loc h) :
    awpOps P cf fz ops [onth ops.toList i] (awpAll P cf fz ops k n (remE i rem)) env loc h := by
  cases rem with
  | nil => cases hi
  | cons x xs =>
    have hk' : List.rec (motive := fun _ => Prop) True (fun i _ ih => match readyB ops (x :: xs) i with
      | true => awpOps P cf fz ops [onth ops.toList i] (awpAll P cf fz ops k n (remE i (x :: xs))) env loc h ∧ ih
      | false => ih) (x :: xs) := hk
    revert hk' hi hr
    generalize hR : x :: xs = R
    intro hi hr hk'
    have : ∀ (l : List Nat), i ∈ l → List.rec (motive := fun _ => Prop) True (fun i _ ih => match readyB ops R i with
      | true => awpOps P cf fz ops [onth ops.toList i] (awpAll P cf fz ops k n (remE i R)) env loc h ∧ ih
      | false => ih) l → awpOps P cf fz ops [onth ops.toList i] (awpAll P cf fz ops k n (remE i R)) env loc h := by
      intro l
      induction l with
      | nil => intro hi; cases hi
      | cons y l ih =>
        intro hi hk
        have hk2 : (match readyB ops R y with
          | true => awpOps P cf fz ops [onth ops.toList y] (awpAll P cf fz ops k n (remE y R)) env loc h ∧ List.rec (motive := fun _ => Prop) True (fun i _ ih => match readyB ops R i with
            | true => awpOps P cf fz ops [onth ops.toList i] (awpAll P cf fz ops k n (remE i R)) env loc h ∧ ih
            | false => ih) l
          | false => List.rec (motive := fun _ => Prop) True (fun i _ ih => match readyB ops R i with
            | true => awpOps P cf fz ops [onth ops.toList i] (awpAll P cf fz ops k n (remE i R)) env loc h ∧ ih
            | false => ih) l) := hk
        by_cases e : i = y
        · subst e
          rw [hr] at hk2
          exact hk2.1
        · have hil := (List.mem_cons.1 hi).resolve_left e
          cases hy : readyB ops R y with
          | true => rw [hy] at hk2; exact ih hil hk2.2
          | false => rw [hy] at hk2; exact ih hil hk2
    exact this R hi hk'
theorem draw_core3 (HT : TabOk P cf) (hedge : ∀ i o, ops[i]? = some o → ∀ j, j ∈ edges o → j < i) :
    ∀ (fuel : Nat) (listed : Array Bool) (pre rem : List Nat) (n : Nat) {env : Env} {loc : Loc} {h : Heap} {a : Act} {w : World} {C : Cx} {β : Nat → Option Nat}, listed.size = ops.size → Closed ops listed → (∀ i, i ∈ pre ++ rem ↔ i < ops.size ∧ listed.getD i false = false) →
      (pre.Pairwise fun j i => okB cf ops (preT ops.toList) j i = true) → (∀ j, j ∈ pre → ∀ i, i ∈ rem → okB cf ops (preT ops.toList) j i = true) → (pre ++ rem).length ≤ fuel → rem.length ≤ n →
      SR b env loc h a w C β → FzOk fz env → awpOps P cf ⟨fz.t, fz.l, fz.a, true, cf.gds⟩ ops (pre.map (onth ops.toList)) (awpAll P cf ⟨fz.t, fz.l, fz.a, true, cf.gds⟩ ops k n rem) env loc h →
      (∀ a w, Next b fz env loc k a w → Q .normal a w) → wpAny P .any ops Q fuel listed a w := by
  intro fuel
  induction fuel with
  | zero =>
    intro listed pre rem n env loc h a w C β hsz hc hrem hpw hpr hf hn H hfz hk hq
    have hr : pre ++ rem = [] := List.eq_nil_of_length_eq_zero (by omega)
    obtain ⟨rfl, rfl⟩ := List.append_eq_nil_iff.1 hr
    have hk' : k env loc h := by
      cases n with
      | zero => exact hk
      | succ n => exact hk
    refine ⟨?_, hq a w ⟨env, loc, h, C, β, H, Kept.refl _ _ _, hk'⟩⟩
    rw [List.eq_nil_iff_forall_not_mem]
    intro i hi
    obtain ⟨o, ho, h2, h3⟩ := (ready_mem hsz).1 hi
    have := (hrem i).2 ⟨(Array.getElem?_eq_some_iff.1 ho).1, h2⟩
    cases this
  | succ fuel ih =>
    intro listed pre rem n env loc h a w C β hsz hc hrem hpw hpr hf hn H hfz hk hq
    refine ⟨fun hrd => ?_, fun i hi => ?_⟩
    · have hr : pre ++ rem = [] := by
        rw [List.eq_nil_iff_forall_not_mem]
        intro i hi
        obtain ⟨i1, i2⟩ := (hrem i).1 hi
        rw [ready_none hsz hedge hrd i i1] at i2; cases i2
      obtain ⟨rfl, rfl⟩ := List.append_eq_nil_iff.1 hr
      have hk' : k env loc h := by
        cases n with
        | zero => exact hk
        | succ n => exact hk
      exact hq a w ⟨env, loc, h, C, β, H, Kept.refl _ _ _, hk'⟩
    obtain ⟨o, ho, h2, h3⟩ := (ready_mem hsz).1 hi
    have hil := (Array.getElem?_eq_some_iff.1 ho).1
    have him := (hrem i).2 ⟨hil, h2⟩
    have unl : ∀ m, m ∈ pre → listed.getD m false = false := fun m hm => ((hrem m).1 (by simp [hm])).2
    by_cases ip : i ∈ pre
    · obtain ⟨r1, r2, he⟩ := List.append_of_mem ip
      subst he
      obtain ⟨s1, s2, s3⟩ := List.pairwise_append.1 hpw
      rw [List.map_append, List.map_cons, onth_of ho] at hk
      have hk2 := pull (fz := ⟨fz.t, fz.l, fz.a, true, cf.gds⟩) rfl (fun j hj => by
        obtain ⟨m, hm, rfl⟩ := List.mem_map.1 hj
        exact okB_pair hc ho h3 (unl m (by simp [hm])) (s3 m hm i (by simp))) hk
      refine wpOp_mono (fun a w hn => ?_) (one_sound (fz := ⟨fz.t, fz.l, fz.a, true, cf.gds⟩) HT H hfz ho hk2)
      obtain ⟨env', loc', h', C', β', H', K', hk3⟩ := hn
      have up1 : ∀ u, u ∈ r1 ++ r2 → u ∈ r1 ++ i :: r2 := fun u hu => by
        simp only [List.mem_append, List.mem_cons] at hu ⊢
        rcases hu with h | h
        · exact .inl h
        · exact .inr (.inr h)
      have inr : ¬ i ∈ rem := fun e => okB_ne (hpr i ip i e) rfl
      refine ih (listed.setIfInBounds i true) (r1 ++ r2) rem n (by simpa using hsz) (closed_set hsz hc ho h3) (left_set hsz hil hrem fun t => ?_) (List.pairwise_append.2 ⟨s1, (List.pairwise_cons.1 s2).2, fun u hu v hv => s3 u hu v (by simp [hv])⟩) (fun j hj => hpr j (up1 j hj)) (by simp at hf ⊢; omega) hn H' (hfz.kept K'.undraw) (by rw [List.map_append]; exact hk3) (fun a w hn => hq a w (Next.kept K'.undraw hn))
      simp only [List.mem_append, List.mem_cons]
      constructor
      · rintro ((h | h) | h)
        · exact ⟨.inl (.inl h), okB_ne (s3 t h i (by simp))⟩
        · exact ⟨.inl (.inr (.inr h)), fun e => okB_ne ((List.pairwise_cons.1 s2).1 t h) e.symm⟩
        · exact ⟨.inr h, fun e => inr (e ▸ h)⟩
      · rintro ⟨(h | h | h) | h, hn⟩
        · exact .inl (.inl h)
        · exact absurd h hn
        · exact .inl (.inr h)
        · exact .inr h
    · have ir : i ∈ rem := by
        rcases List.mem_append.1 him with h | h
        · exact absurd h ip
        · exact h
      cases n with
      | zero => have := List.eq_nil_of_length_eq_zero (Nat.le_zero.1 hn); subst this; cases ir
      | succ n =>
        have hrd : readyB ops rem i = true := readyB_of fun j hj hjr => by
          rw [onth_of ho] at hj
          have := ((hrem j).1 (List.mem_append.2 (.inr hjr))).2
          rw [h3 j hj] at this; cases this
        have hk2 : awpOne P cf ⟨fz.t, fz.l, fz.a, true, cf.gds⟩ ops o (awpOps P cf ⟨fz.t, fz.l, fz.a, true, cf.gds⟩ ops (pre.map (onth ops.toList) ++ []) (awpAll P cf ⟨fz.t, fz.l, fz.a, true, cf.gds⟩ ops k n (remE i rem))) env loc h :=
          pull_any (fz := ⟨fz.t, fz.l, fz.a, true, cf.gds⟩) rfl (fun j hj => by
            obtain ⟨m, hm, rfl⟩ := List.mem_map.1 hj
            exact okB_pair hc ho h3 (unl m hm) (hpr m hm i ir)) (fun env loc h hk => by
            have := awpAll_pick ir hrd hk
            rw [onth_of ho] at this
            exact this) hk
        rw [List.append_nil] at hk2
        refine wpOp_mono (fun a w hn => ?_) (one_sound (fz := ⟨fz.t, fz.l, fz.a, true, cf.gds⟩) HT H hfz ho hk2)
        obtain ⟨env', loc', h', C', β', H', K', hk3⟩ := hn
        have hlt := remE_lt ir
        refine ih (listed.setIfInBounds i true) pre (remE i rem) n (by simpa using hsz) (closed_set hsz hc ho h3) (left_set hsz hil hrem fun t => ?_) hpw (fun j hj u hu => hpr j hj u (remE_mem.1 hu).1) (by simp at hf ⊢; omega) (by omega) H' (hfz.kept K'.undraw) hk3 (fun a w hn => hq a w (Next.kept K'.undraw hn))
        simp only [List.mem_append, remE_mem]
        constructor
        · rintro (h | h)
          · exact ⟨.inl h, fun e => ip (e ▸ h)⟩
          · exact ⟨.inr h.1, h.2⟩
        · rintro ⟨h | h, hn⟩
          · exact .inl h
          · exact .inr ⟨h, hn⟩
theorem drawn_ok (HT : TabOk P cf) {id : Nat} (ho : annO cf.draws id = some ord) (hck : drawOk cf ops ord = true) : DrawnOk P cf id ops := by
  intro fz b env loc h a w C β k Q ord' ho' H hfz hk hq
  rw [ho] at ho'; cases ho'
  have hpk : ∀ (l : List Nat), pickOps ops.toList l = l.map (onth ops.toList) := fun l => by
    induction l with
    | nil => rfl
    | cons i r ih => simp only [pickOps, List.map_cons, ih]
  have hl0 : ∀ i, (Array.replicate ops.size false).getD i false = false := fun i => by
    simp [Array.getD_eq_getD_getElem?, Array.getElem?_replicate]
    split <;> simp
  have hcl : Closed ops (Array.replicate ops.size false) := fun i o hx _ j _ => by rw [hl0] at hx; cases hx
  unfold awpReg at hk
  unfold drawOk at hck
  revert hk hck
  cases hm : postM ops.size ord with
  | none =>
    intro hck hk
    simp only [drawOk1, Bool.and_eq_true, List.isEmpty_iff] at hck
    obtain ⟨⟨⟨⟨⟨h9, h0⟩, h1⟩, h2⟩, h3⟩, h4⟩ := hck
    have hall : ∀ i, i < ops.size → i ∈ (grp ops.size ord).2.map (·.1) := fun i hi => (nmem_eq _ _).1 (List.all_eq_true.1 h3 i (by simp [hi]))
    have hlt : ∀ i, i ∈ (grp ops.size ord).2 → i.1 < ops.size ∧ monoOk cf (onth ops.toList i.1) = true := fun i hi => by
      have := List.all_eq_true.1 h2 i hi
      simp only [Bool.and_eq_true] at this
      exact ⟨by simpa [Nat.blt_eq] using this.1, this.2⟩
    have hw := (awpL_W (fz := ⟨fz.t, fz.l, fz.a, true, cf.gds⟩) rfl (fun i hi => (hlt i hi).2) hk).2
    refine draw_coreW HT (fun i o hi j hj => ?_) ops.size (Array.replicate ops.size false) _ (by simp) hcl (fun i => ⟨fun hi => ?_, fun hi => hall i hi.1⟩) (pairsW_pw h1) (fun j hj => (hlt j hj).2) (Nat.le_of_ble_eq_true h0) H hfz hw hq
    · have hm : (o, i) ∈ ops.toList.zipIdx := by
        rw [List.mem_zipIdx_iff_getElem?]; simpa using hi
      have := List.all_eq_true.1 (List.all_eq_true.1 h4 _ hm) j hj
      simpa [Nat.blt_eq] using this
    · obtain ⟨z, hz, rfl⟩ := List.mem_map.1 hi
      exact ⟨(hlt z hz).1, hl0 z.1⟩
  | some l =>
    simp only
    cases hx : preM ops.size l with
    | nil =>
      simp only
      cases hy : postM ops.size l with
      | none => intro hck; simp at hck
      | some y =>
        intro hck hk
        simp only [drawOk3, Bool.and_eq_true] at hck
        obtain ⟨⟨⟨⟨⟨c0, c2⟩, c3⟩, c4⟩, d1⟩, d3⟩ := hck
        have hall : ∀ i, i < ops.size → i ∈ preM ops.size ord ++ y := fun i hi => (nmem_eq _ _).1 (List.all_eq_true.1 c3 i (by simp [hi]))
        have hlt : ∀ i, i ∈ preM ops.size ord ++ y → i < ops.size := fun i hi => by have := List.all_eq_true.1 c2 i hi; simpa [Nat.blt_eq] using this
        refine draw_core3 HT (fun i o hi j hj => ?_) ops.size (Array.replicate ops.size false) (preM ops.size ord) y y.length (by simp) hcl
          (fun i => ⟨fun hi => ⟨hlt i hi, hl0 i⟩, fun hi => hall i hi.1⟩) (pairsB_pw d1) (fun j hj i hi => List.all_eq_true.1 (List.all_eq_true.1 d3 j hj) i hi) (Nat.le_of_ble_eq_true c0) (Nat.le_refl _) H hfz ?_ hq
        · have hm : (o, i) ∈ ops.toList.zipIdx := by
            rw [List.mem_zipIdx_iff_getElem?]; simpa using hi
          have := List.all_eq_true.1 (List.all_eq_true.1 c4 _ hm) j hj
          simpa [Nat.blt_eq] using this
        · simp only [← hpk]
          exact hk
    | cons x xs =>
      simp only
      cases hy : postM ops.size l with
      | none => intro hck hk; exact (show False from hk).elim
      | some l2 =>
        cases l2 with
        | nil => intro hck; simp at hck
        | cons y ys =>
          intro hck hk
          simp only [drawOk2, Bool.and_eq_true, Bool.not_eq_true'] at hck
          obtain ⟨⟨⟨⟨⟨⟨⟨⟨⟨⟨⟨⟨⟨c0, c1⟩, c2⟩, c3⟩, c4⟩, c5⟩, c6⟩, c7⟩, c8⟩, c9⟩, d1⟩, d2⟩, d3⟩, d4⟩ := hck
          have hall : ∀ i, i < ops.size → i ∈ preM ops.size ord ++ x :: xs := fun i hi => (nmem_eq _ _).1 (List.all_eq_true.1 c3 i (by simp [hi]))
          have hlt : ∀ i, i ∈ preM ops.size ord ++ x :: xs → i < ops.size := fun i hi => by have := List.all_eq_true.1 c2 i hi; simpa [Nat.blt_eq] using this
          have nm : ∀ {l : List Nat} {t : Nat}, nmem l t = false → ¬ t ∈ l := fun h e => by rw [(nmem_eq _ _).2 e] at h; cases h
          refine draw_core2 HT (fun i o hi j hj => ?_) (beq_ne c5) (nm c6) (nm c7) (fun m => ⟨fun hm => (nmem_eq _ _).1 (List.all_eq_true.1 c8 m hm), fun hm => (nmem_eq _ _).1 (List.all_eq_true.1 c9 m hm)⟩) (fun m hm => ?_) ops.size (Array.replicate ops.size false) (preM ops.size ord) (by simp) hcl
            (fun i => ⟨fun hi => ⟨hlt i hi, hl0 i⟩, fun hi => hall i hi.1⟩) (pairsB_pw d1) (pairsB_pw d2) (fun j hj => ?_) (Nat.le_of_ble_eq_true c0) (Nat.le_of_ble_eq_true c1) H hfz ?_ hq
          · have hm : (o, i) ∈ ops.toList.zipIdx := by
              rw [List.mem_zipIdx_iff_getElem?]; simpa using hi
            have := List.all_eq_true.1 (List.all_eq_true.1 c4 _ hm) j hj
            simpa [Nat.blt_eq] using this
          · have := List.all_eq_true.1 d4 m hm
            simp only [Bool.or_eq_true] at this
            rcases this with (e | e) | e
            · exact .inl (Nat.eq_of_beq_eq_true e)
            · exact .inr (.inl ((nmem_eq _ _).1 e))
            · exact .inr (.inr ((nmem_eq _ _).1 e))
          · have := List.all_eq_true.1 d3 j hj
            simpa only [Bool.and_eq_true] using this
          · simp only [← hpk]
            exact hk
end
end Am
set_option linter.unusedVariables false
set_option linter.unusedSimpArgs false
namespace Am
open Go
noncomputable def regB (cf : Cfg) : Code → Bool
  | .region id ops true => match annO cf.draws id with
    | some ord => drawOk cf ops ord
    | none => false
  | .seq a b => regB cf a && regB cf b
  | .cond _ a b => regB cf a && regB cf b
  | .block _ c => regB cf c
  | .loop c => regB cf c
  | _ => true
theorem regB_ok {P : Program} {cf : Cfg} (HT : TabOk P cf) : ∀ (c : Code), regB cf c = true → RegOk P cf c := by
  intro c
  induction c with
  | region id ops dr =>
    cases dr with
    | false => exact fun _ => trivial
    | true =>
      intro h
      have h' : (match annO cf.draws id with | some ord => drawOk cf ops ord | none => false) = true := h
      split at h'
      · rename_i ord ho
        have hd : DrawnOk P cf id ops := @drawn_ok P cf ops ord HT id ho h'
        exact @hd
      · cases h'
  | seq a b iha ihb =>
    intro h
    have h' : (regB cf a && regB cf b) = true := h
    simp only [Bool.and_eq_true] at h'
    exact ⟨iha h'.1, ihb h'.2⟩
  | cond c a b iha ihb =>
    intro h
    have h' : (regB cf a && regB cf b) = true := h
    simp only [Bool.and_eq_true] at h'
    exact ⟨iha h'.1, ihb h'.2⟩
  | block id c ih => exact fun h => ih h
  | loop c ih => exact fun h => ih h
  | _ => exact fun _ => trivial
noncomputable def fnB (cf : Cfg) (fn : Func) : Bool := match fn.body with
  | some c => regB cf c && resTy cf fn.results.toList && !(fn.name == "runtime.NumGoroutine")
  | none => false
theorem contract {P : Program} {cf : Cfg} (HT : TabOk P cf) (hm : P.follows .mixedOrders = true) {f : FuncId} {fn : Func} {args : List AV} {h : Heap} {Q : AV → Heap → Prop} (hf : P.funcs[f]? = some fn) (hc : fnB cf fn = true)
    (hk : abody P cf fn args h Q) : ACalls P f args h Q := by
  unfold fnB at hc
  split at hc
  · rename_i c hb
    simp only [Bool.and_eq_true, Bool.not_eq_true'] at hc
    exact acalls HT hm hf hb hc.2 (regB_ok HT c hc.1.1) hc.1.2 hk
  · cases hc
end Am
