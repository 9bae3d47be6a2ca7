/- Loops: what is carried, weakened and laid anew. -/
import Derived.Test.YtoifckjdnldlpaaB9
set_option linter.unusedVariables false
set_option linter.unusedSimpArgs false
namespace Am
open Go
section
variable {P : Program} {cf : Cfg} {fz : Fz} {b : Base} {env : Env} {loc : Loc} {h : Heap} {a : Act} {w : World} {C : Cx} {β : Nat → Option Nat} {k : K} {o : Oper}
theorem nth_dead {env : Env} {t : Nat} (h : ¬ t < env.length) : nth env t = .dead := by
  rw [nth_eq, List.getD_eq_getElem?_getD, List.getElem?_eq_none (Nat.le_of_not_lt h)]; rfl
theorem SR.weaken (H : SR b env loc h a w C β) {h2 : Heap} (hh : HRef h h2) {env2 : Env} {loc2 : Loc} (hlen : env2.length = env.length)
    (he : ∀ t, t < env.length → nth env2 t = nth env t ∨ nth env2 t = .dead ∨ ∃ v y, asV (nth env t) = some v ∧ nth env2 t = .av y ∧ Ref h h2 v y)
    (hk : ∀ t u off, nth env2 t = .loc u off → (lkp loc2 u).isSome)
    (hl : ∀ t cs2, lkp loc2 t = some cs2 → ∃ cs, lkp loc t = some cs ∧ cs2.length = cs.length ∧ ∀ j, j < cs.length → Ref h h2 (g cs j) (g cs2 j)) :
    SR b env2 loc2 h2 a w (C.drop h h2) β := by
  have H1 := H.step (HRef.sound H.ev.rel hh)
  refine ⟨H.dfr, by rw [hlen, H.len], fun t ht => ?_, hk, H1.ev, fun t cs2 hcs => ?_, fun t t' cs cs' x h1 h2 h3 h4 => ?_⟩
  · rw [hlen] at ht
    rcases he t ht with e | e | ⟨v, y, e1, e2, e3⟩
    · rw [e]; exact H1.tmp t ht
    · rw [e]; trivial
    · rw [e2]; exact e3.sound H.ev.rel ((H.tmp t ht).asV e1)
  · obtain ⟨cs, h1, h2, h3⟩ := hl t cs2 hcs
    obtain ⟨x, k1, k2, k3, k4, c, e, k5, k6, k7⟩ := H.vars t cs h1
    obtain ⟨x', m1, m2, m3, m4, m5⟩ := H1.vars t cs h1
    rw [k1] at m1; cases m1
    refine ⟨x, k1, k2, m3, m4, c, e, k5, by omega, fun j hj => ?_⟩
    obtain ⟨v, n1, n2, n3⟩ := k7 j (by omega)
    exact ⟨v, n1, n2, (h3 j (by omega)).sound H.ev.rel n3⟩
  · obtain ⟨c1, k1, _⟩ := hl t cs h1
    obtain ⟨c2, k2, _⟩ := hl t' cs' h2
    exact H.linj t t' c1 c2 x k1 k2 h3 h4
def injTf (σ : List AV) : Env → Nat → List Nat → Env
  | env, _, [] => env
  | env, n, t :: ts => injTf σ (env.set t (.av (g σ n))) (n + 1) ts
theorem injT_eq (σ : List AV) : ∀ (ts : List Nat) (env : Env) (n : Nat) (k : Env → Nat → Prop), injT σ env n ts k = k (injTf σ env n ts) (n + ts.length)
  | [], env, n, k => rfl
  | t :: ts, env, n, k => by
    simp only [injT, setK_eq, injTf, List.length_cons]
    rw [injT_eq σ ts]
    congr 1
    omega
theorem injTf_len (σ : List AV) : ∀ (ts : List Nat) (env : Env) (n : Nat), (injTf σ env n ts).length = env.length
  | [], env, n => rfl
  | t :: ts, env, n => by rw [injTf, injTf_len σ ts]; simp
theorem injTf_nth (σ : List AV) : ∀ (ts : List Nat) (env : Env) (n t : Nat), t < env.length →
    (t ∉ ts ∧ nth (injTf σ env n ts) t = nth env t) ∨ ∃ i, i < ts.length ∧ ts.getD i 0 = t ∧ nth (injTf σ env n ts) t = .av (g σ (n + i))
  | [], env, n, t, ht => .inl ⟨by simp, rfl⟩
  | s :: ts, env, n, t, ht => by
    rw [injTf]
    rcases injTf_nth σ ts (env.set s (.av (g σ n))) (n + 1) t (by simpa using ht) with ⟨h1, h2⟩ | ⟨i, h1, h2, h3⟩
    · rw [nth_set] at h2
      by_cases e : s = t
      · rw [if_pos ⟨e, ht⟩] at h2
        exact .inr ⟨0, by simp, by simpa using e, h2⟩
      · rw [if_neg (fun h => e h.1)] at h2
        exact .inl ⟨by simp [h1, Ne.symm e], h2⟩
    · exact .inr ⟨i + 1, by simp [h1], by simpa using h2, by rw [h3]; congr 2; omega⟩
theorem nth_foldl_dead : ∀ (ts : List Nat) (env : Env) (t : Nat), nth (ts.foldl (fun e t => e.set t .dead) env) t = if t ∈ ts then .dead else nth env t
  | [], env, t => by simp
  | s :: ts, env, t => by
    rw [List.foldl_cons, nth_foldl_dead ts, nth_set]
    by_cases h1 : t ∈ ts
    · simp [h1]
    · by_cases h2 : s = t
      · subst h2
        by_cases h3 : s < env.length
        · simp [h1, h3]
        · simp [h1, h3, nth_dead h3]
      · simp [h1, h2, Ne.symm h2]
theorem len_foldl_dead : ∀ (ts : List Nat) (env : Env), (ts.foldl (fun e t => e.set t .dead) env).length = env.length
  | [], env => rfl
  | s :: ts, env => by rw [List.foldl_cons, len_foldl_dead ts]; simp
theorem projT_elim {env : Env} : ∀ {ts : List Nat} {k : List AV → Prop}, projT env ts k → ∃ vs, vs.length = ts.length ∧ (∀ i, i < ts.length → asV (nth env (ts.getD i 0)) = some (g vs i)) ∧ k vs
  | [], k, h => ⟨[], rfl, by simp, h⟩
  | t :: ts, k, h => by
    obtain ⟨v, h1, h2⟩ := asAV_elim h
    obtain ⟨vs, h3, h4, h5⟩ := projT_elim h2
    refine ⟨v :: vs, by simp [h3], fun i hi => ?_, h5⟩
    cases i with
    | zero => simpa [g] using h1
    | succ i => have := h4 i (by simpa using hi); simpa [g] using this
noncomputable def lenOf (loc : Loc) (t : Nat) : Nat := ((lkp loc t).getD []).length
def At (len : Nat → Nat) : Nat → List Nat → Nat → Nat → Prop
  | _, [], _, _ => False
  | n, t :: ts, u, m => (u = t ∧ m = n) ∨ At len (n + len t) ts u m
def tot (len : Nat → Nat) : List Nat → Nat
  | [] => 0
  | t :: ts => len t + tot len ts
theorem At.congr {len len' : Nat → Nat} : ∀ {ts : List Nat} {n u m : Nat}, (∀ t, t ∈ ts → len t = len' t) → At len n ts u m → At len' n ts u m
  | [], _, _, _, _, h => h
  | t :: ts, n, u, m, he, h => by
    rcases h with h | h
    · exact .inl h
    · exact .inr (by rw [← he t (by simp)]; exact At.congr (fun s hs => he s (by simp [hs])) h)
theorem tot.congr {len len' : Nat → Nat} : ∀ {ts : List Nat}, (∀ t, t ∈ ts → len t = len' t) → tot len ts = tot len' ts
  | [], _ => rfl
  | t :: ts, he => by rw [tot, tot, he t (by simp), tot.congr (fun s hs => he s (by simp [hs]))]
theorem projL_elim {loc : Loc} : ∀ {ts : List Nat} {k : List AV → Prop}, projL loc ts k → ∃ l, l.length = tot (lenOf loc) ts ∧ k l ∧ (∀ t, t ∈ ts → (lkp loc t).isSome) ∧
    ∀ n u m, At (lenOf loc) n ts u m → ∃ cs, lkp loc u = some cs ∧ n ≤ m ∧ (m - n) + cs.length ≤ l.length ∧ ∀ j, j < cs.length → g l (m - n + j) = g cs j
  | [], k, h => ⟨[], rfl, h, by simp, fun _ _ _ h => h.elim⟩
  | t :: ts, k, h => by
    have h' : (match lkp loc t with | some cs => projL loc ts fun vs => k (cs ++ vs) | none => FF) := h
    split at h'
    · rename_i cs hcs
      obtain ⟨l, h1, h2, h3, h4⟩ := projL_elim h'
      have hlen : lenOf loc t = cs.length := by simp [lenOf, hcs]
      refine ⟨cs ++ l, by simp [tot, h1, hlen], h2, fun s hs => ?_, fun n u m hat => ?_⟩
      · rcases List.mem_cons.1 hs with rfl | hs
        · simp [hcs]
        · exact h3 s hs
      · rcases hat with ⟨rfl, rfl⟩ | hat
        · exact ⟨cs, hcs, Nat.le_refl _, by simp, fun j hj => by rw [Nat.sub_self, Nat.zero_add]; exact getD_app_l hj⟩
        · obtain ⟨cs', k1, k2, k3, k4⟩ := h4 _ u m hat
          rw [hlen] at k2 k3 k4
          refine ⟨cs', k1, by omega, by simp; omega, fun j hj => ?_⟩
          have : g (cs ++ l) (m - n + j) = g l (m - n + j - cs.length) := getD_app_r (by omega)
          rw [this, ← k4 j hj]
          congr 1
          omega
    · exact (show False from h').elim
/-- The variables ts hold what σ says from n on. -/
structure Laid (σ : List AV) (loc loc2 : Loc) (n : Nat) (ts : List Nat) : Prop where
  out : ∀ u, u ∉ ts → lkp loc2 u = lkp loc u
  inn : ∀ u, u ∈ ts → ∃ cs m, lkp loc u = some cs ∧ At (lenOf loc) n ts u m ∧ lkp loc2 u = some (gets σ m cs.length)
theorem injL_elim {σ : List AV} : ∀ {ts : List Nat} {loc : Loc} {n : Nat} {k : Loc → Prop}, injL σ loc n ts k → ∃ loc2, k loc2 ∧ Laid σ loc loc2 n ts
  | [], loc, n, k, h => ⟨loc, h, ⟨fun _ _ => rfl, by simp⟩⟩
  | t :: ts, loc, n, k, h => by
    have h' : (match lkp loc t with | some cs => lsetK loc t (gets σ n cs.length) fun loc => injL σ loc (n + cs.length) ts k | none => FF) := h
    split at h'
    · rename_i cs hcs
      rw [lsetK_eq] at h'
      obtain ⟨loc2, h1, h2⟩ := injL_elim h'
      have hlen : lenOf loc t = cs.length := by simp [lenOf, hcs]
      have hle : ∀ u, lenOf (lset loc t (gets σ n cs.length)) u = lenOf loc u := fun u => by
        simp only [lenOf, lkp_lset]
        split
        · rename_i e; subst e; simp [hcs, gets_length]
        · rfl
      refine ⟨loc2, h1, ⟨fun u hu => ?_, fun u hu => ?_⟩⟩
      · rw [h2.out u (fun h => hu (by simp [h])), lkp_lset, if_neg (fun e => hu (by simp [e]))]
      · by_cases hut : u ∈ ts
        · obtain ⟨c, m, k1, k2, k3⟩ := h2.inn u hut
          have k2' := k2.congr (len' := lenOf loc) (fun t _ => hle t)
          rw [lkp_lset] at k1
          by_cases e : t = u
          · subst e
            rw [if_pos rfl] at k1; cases k1
            rw [gets_length] at k3
            exact ⟨cs, m, hcs, .inr (by rw [hlen]; exact k2'), k3⟩
          · rw [if_neg e] at k1
            exact ⟨c, m, k1, .inr (by rw [hlen]; exact k2'), k3⟩
        · have e : u = t := by
            rcases List.mem_cons.1 hu with h | h
            · exact h
            · exact (hut h).elim
          subst e
          refine ⟨cs, n, hcs, .inl ⟨rfl, rfl⟩, ?_⟩
          rw [h2.out u hut, lkp_lset, if_pos rfl]
    · exact (show False from h').elim
/-- At a loop's head: what is carried is weakened and laid anew. -/
theorem reenter {env' : Env} {loc' : Loc} (H : SR b env' loc' h a w C β) {an : Ann} (hlen : env'.length = env.length) (hlk : ∀ t u off, nth env t = .loc u off → (lkp loc u).isSome)
    (hwr : ∀ t, t ∉ an.wr → nth env' t = nth env t) (hlc : ∀ t, t ∉ an.lc → (lkp loc t).isSome → lkp loc' t = lkp loc t)
    (hll : ∀ t cs, t ∈ an.lc → lkp loc t = some cs → ∃ cs', lkp loc' t = some cs' ∧ cs'.length = cs.length)
    {Kσ : List AV → Heap → Prop} (hin : ∀ t, t ∈ an.lc → (lkp loc t).isSome) {σt σl : List AV} (t1 : σt.length = an.tm.length) (t2 : ∀ i, i < an.tm.length → asV (nth env' (an.tm.getD i 0)) = some (g σt i)) (l1 : σl.length = tot (lenOf loc') an.lc)
    (l3 : ∀ n u m, At (lenOf loc') n an.lc u m → ∃ cs, lkp loc' u = some cs ∧ n ≤ m ∧ (m - n) + cs.length ≤ σl.length ∧ ∀ j, j < cs.length → g σl (m - n + j) = g cs j)
    (hk2 : Wk (σt ++ σl) h Kσ) :
    ∃ σ2 h2 C2, Kσ σ2 h2 ∧ σ2.length = an.tm.length + tot (lenOf loc) an.lc ∧
      ∀ loc2, Laid σ2 loc loc2 an.tm.length an.lc → SR b (injTf σ2 (an.wr.foldl (fun e t => e.set t .dead) env) 0 an.tm) loc2 h2 a w C2 β := by
  obtain ⟨σ2, h2, hh, w1, w2, w3⟩ := hk2
  have hle : ∀ t, t ∈ an.lc → lenOf loc' t = lenOf loc t := fun t ht => by
    obtain ⟨cs, hcs⟩ := Option.isSome_iff_exists.1 (hin t ht)
    obtain ⟨cs', h1, h2⟩ := hll t cs ht hcs
    simp [lenOf, hcs, h1, h2]
  refine ⟨σ2, h2, C.drop h h2, w3, by rw [w1, List.length_append, t1, l1, tot.congr hle], fun loc2 hL => ?_⟩
  have hlk2 : ∀ u, (lkp loc u).isSome → (lkp loc2 u).isSome := fun u hu => by
    by_cases e : u ∈ an.lc
    · obtain ⟨cs, m, h1, h2, h3⟩ := hL.inn u e
      simp [h3]
    · rw [hL.out u e]; exact hu
  refine H.weaken hh ?_ (fun t ht => ?_) (fun t u off hn => ?_) (fun t cs2 hcs => ?_)
  · rw [injTf_len, len_foldl_dead, hlen]
  · rcases injTf_nth σ2 an.tm (an.wr.foldl (fun e t => e.set t .dead) env) 0 t (by rw [len_foldl_dead, ← hlen]; exact ht) with ⟨h1, h2⟩ | ⟨i, h1, h2, h3⟩
    · rw [h2, nth_foldl_dead]
      by_cases e : t ∈ an.wr
      · rw [if_pos e]; exact .inr (.inl rfl)
      · rw [if_neg e]; exact .inl (hwr t e).symm
    · refine .inr (.inr ⟨g σt i, _, ?_, h3, ?_⟩)
      · rw [← h2]; exact t2 i h1
      · have := w2 i (by rw [List.length_append]; omega)
        have e : g (σt ++ σl) i = g σt i := getD_app_l (by omega)
        rw [e] at this
        simpa using this
  · by_cases ht : t < env.length
    · rcases injTf_nth σ2 an.tm (an.wr.foldl (fun e t => e.set t .dead) env) 0 t (by rw [len_foldl_dead]; exact ht) with ⟨h1, h2⟩ | ⟨i, h1, h2, h3⟩
      · rw [h2, nth_foldl_dead] at hn
        split at hn
        · cases hn
        · exact hlk2 u (hlk t u off hn)
      · rw [h3] at hn; cases hn
    · rw [nth_dead (by rw [injTf_len, len_foldl_dead]; exact ht)] at hn; cases hn
  · by_cases e : t ∈ an.lc
    · obtain ⟨cs, m, h1, h2, h3⟩ := hL.inn t e
      rw [hcs] at h3; cases h3
      obtain ⟨cs', h4, h5⟩ := hll t cs e h1
      obtain ⟨c, h6, h7, h8, h9⟩ := l3 _ t m (h2.congr (fun t ht => (hle t ht).symm))
      rw [h4] at h6; cases h6
      refine ⟨cs', h4, by rw [gets_length, h5], fun j hj => ?_⟩
      rw [g_gets _ _ _ _ (by omega)]
      have := w2 (m + j) (by rw [List.length_append]; omega)
      have e2 : g (σt ++ σl) (m + j) = g σl (m + j - σt.length) := getD_app_r (by omega)
      rw [e2, show m + j - σt.length = m - an.tm.length + j by omega, h9 j hj] at this
      exact this
    · rw [hL.out t e] at hcs
      have := hlc t e (by simp [hcs])
      exact ⟨cs2, by rw [this]; exact hcs, rfl, fun j _ => .refl⟩
end
end Am
