/- Flow, plain: what is known only grows, is right, and closed when the work is done; how much of it there can be. -/
import Derived.Test.YtoifckjdnldlpaaGreatZFf
set_option linter.unusedVariables false
set_option linter.unusedSimpArgs false
namespace Am
open Go Go.Proofs.Tryz
def semW (s : Sch) (P : Nat) (x : AV) (q hd : Pc) : Prop :=
  (∃ g : Nat, x = clB P q (ndS s q).1 ∧ labP s q = (1, (g : Int)) ∧ hd = (g, 0)) ∨ (∃ h' n, x = clC 188 P n (h', q) ∧ hd = (h'.1, n)) ∨ (∃ h' n, x = clC 208 P n (h', q) ∧ hd = (h'.1, h'.2 + n))
theorem plC_inj {p q : Pc} (h : plC p = plC q) : p = q := by
  simp only [plC, List.cons.injEq, AV.val.injEq, Value.int.injEq, true_and, and_true] at h
  exact Prod.ext (by omega) (by omega)
theorem semW_inj {s : Sch} {P : Nat} {x : AV} {q hd q' hd' : Pc} (h : semW s P x q hd) (h' : semW s P x q' hd') : q = q' ∧ hd = hd' := by
  rcases h with ⟨g, rfl, hl, rfl⟩ | ⟨a, n, rfl, rfl⟩ | ⟨a, n, rfl, rfl⟩ <;> rcases h' with ⟨g', e, hl', rfl⟩ | ⟨a', n', e, rfl⟩ | ⟨a', n', e, rfl⟩
  all_goals simp only [clB, clC, AV.fn.injEq, List.cons.injEq, AV.ro.injEq, Nat.reduceEqDiff, false_and, and_false, true_and, and_true, reduceCtorEq] at e
  · have := plC_inj (p := q) (q := q') (by simpa [plC] using e.1)
    subst this
    rw [hl] at hl'
    simp at hl'
    have hl2 : g = g' := by omega
    exact ⟨rfl, by rw [hl2]⟩
  · obtain ⟨e1, e2, e3⟩ := e
    have h1 := plC_inj (p := q) (q := q') (by simpa [plC] using e1)
    have h2 := plC_inj (p := a) (q := a') (by simpa [plC] using e2)
    have h3 : n = n' := by
      simp at e3; omega
    subst h1; subst h2; subst h3; exact ⟨rfl, rfl⟩
  · obtain ⟨e1, e2, e3⟩ := e
    have h1 := plC_inj (p := q) (q := q') (by simpa [plC] using e1)
    have h2 := plC_inj (p := a) (q := a') (by simpa [plC] using e2)
    have h3 : n = n' := by
      simp at e3; omega
    subst h1; subst h2; subst h3; exact ⟨rfl, rfl⟩
def Pend (s : Sch) (P : Nat) (σ : St) (E : Pc → Pc → Prop) (q hd : Pc) : Prop := (q, hd) ∈ σ.hl ∨ (∃ x, x ∈ σ.wk ∧ semW s P x q hd) ∨ E q hd
structure Inv (s : Sch) (R : Nat → Prop) (P : Nat) (σ : St) (E D : Pc → Pc → Prop) : Prop where
  sh : ∀ p h, (p, h) ∈ σ.hl → FlP s R false p h
  sc : ∀ k p, (k, p) ∈ σ.cl → FlP s R true k p
  sw : ∀ x, x ∈ σ.wk → ∃ q hd, semW s P x q hd ∧ q ∈ σ.bg ∧ FlP s R false q hd
  c1 : ∀ p, p ∈ σ.bg → ∀ g : Nat, labP s p = (1, (g : Int)) → Pend s P σ E p (g, 0)
  c2 : ∀ q, q ∈ σ.bg → ∀ k, keyOf s q = some k → ∀ p, (k, p) ∈ σ.cl → ∀ h, (p, h) ∈ σ.hl → ¬ D p h → Pend s P σ E q (h.1, h.2 + nA s p)
  c3 : ∀ p h, (p, h) ∈ σ.hl → R p.1 → ¬ D p h → ∀ j, j < nA s p → h.2 + j < ar s h.1 → ((h.1, h.2 + j), argAt s p j) ∈ σ.cl
def No : Pc → Pc → Prop := fun _ _ => False
section
variable {s : Sch} {R : Nat → Prop} {P : Nat} {σ : St} {E D : Pc → Pc → Prop}
theorem Pend.mono {σ' : St} {E' : Pc → Pc → Prop} {q hd : Pc} (h : Pend s P σ E q hd) (h1 : ∀ e, e ∈ σ.hl → e ∈ σ'.hl) (h2 : ∀ x, x ∈ σ.wk → x ∈ σ'.wk) (h3 : E q hd → Pend s P σ' E' q hd) : Pend s P σ' E' q hd := by
  rcases h with h | ⟨x, hx, hs⟩ | h
  · exact .inl (h1 _ h)
  · exact .inr (.inl ⟨x, h2 x hx, hs⟩)
  · exact h3 h
theorem Inv.pop (I : Inv s R P σ No No) {ws : List AV} {x : AV} (hw : σ.wk = ws ++ [x]) (jk : List AV) : Inv s R P { σ with wk := ws, jk := jk } (semW s P x) No := by
  have key : ∀ q hd, Pend s P σ No q hd → Pend s P { σ with wk := ws, jk := jk } (semW s P x) q hd := fun q hd h => by
    rcases h with h | ⟨y, hy, hs⟩ | h
    · exact .inl h
    · rw [hw] at hy
      rcases List.mem_append.1 hy with hy | hy
      · exact .inr (.inl ⟨y, hy, hs⟩)
      · have : y = x := by simpa using hy
        subst this; exact .inr (.inr hs)
    · exact h.elim
  exact ⟨I.sh, I.sc, fun y hy => I.sw y (by rw [hw]; exact List.mem_append.2 (.inl hy)), fun p hp g hl => key _ _ (I.c1 p hp g hl), fun q hq k hk p hp h hh hd => key _ _ (I.c2 q hq k hk p hp h hh hd), I.c3⟩
theorem Inv.had (I : Inv s R P σ E D) (hE : ∀ q hd, E q hd → (q, hd) ∈ σ.hl) : Inv s R P σ No D := by
  have key : ∀ q hd, Pend s P σ E q hd → Pend s P σ No q hd := fun q hd h => h.mono (fun _ h => h) (fun _ h => h) fun h => .inl (hE q hd h)
  exact ⟨I.sh, I.sc, I.sw, fun p hp g hl => key _ _ (I.c1 p hp g hl), fun q hq k hk p hp h hh hd => key _ _ (I.c2 q hq k hk p hp h hh hd), I.c3⟩
theorem Inv.addH (I : Inv s R P σ E No) {p0 h0 : Pc} (hE : ∀ q hd, E q hd → q = p0 ∧ hd = h0) (hF : FlP s R false p0 h0) : Inv s R P (σ.addH p0 h0) No fun p h => p = p0 ∧ h = h0 := by
  have hm : ∀ e, e ∈ σ.hl → e ∈ (σ.addH p0 h0).hl := fun e he => List.mem_append.2 (.inl he)
  have hn : (p0, h0) ∈ (σ.addH p0 h0).hl := List.mem_append.2 (.inr (by simp))
  have key : ∀ q hd, Pend s P σ E q hd → Pend s P (σ.addH p0 h0) No q hd := fun q hd h => h.mono hm (fun _ h => h) fun h => by
    obtain ⟨rfl, rfl⟩ := hE q hd h
    exact .inl hn
  have inv : ∀ p h, (p, h) ∈ (σ.addH p0 h0).hl → (p, h) ∈ σ.hl ∨ (p = p0 ∧ h = h0) := fun p h hh => by
    rcases List.mem_append.1 hh with hh | hh
    · exact .inl hh
    · exact .inr (by simpa using hh)
  refine ⟨fun p h hh => ?_, I.sc, I.sw, fun p hp g hl => key _ _ (I.c1 p hp g hl), fun q hq k hk p hp h hh hd => ?_, fun p h hh hr hd => ?_⟩
  · rcases inv p h hh with h1 | ⟨rfl, rfl⟩
    · exact I.sh p h h1
    · exact hF
  · exact key _ _ (I.c2 q hq k hk p hp h ((inv p h hh).resolve_right hd) fun h => h)
  · exact I.c3 p h ((inv p h hh).resolve_right hd) hr fun h => h
theorem Inv.push (I : Inv s R P σ E D) {ws : List AV} (hw : ∀ x, x ∈ ws → ∃ q hd, semW s P x q hd ∧ q ∈ σ.bg ∧ FlP s R false q hd) : Inv s R P (σ.push ws) E D := by
  have key : ∀ q hd, Pend s P σ E q hd → Pend s P (σ.push ws) E q hd := fun q hd h => h.mono (fun _ h => h) (fun x hx => List.mem_append.2 (.inl hx)) fun h => .inr (.inr h)
  refine ⟨I.sh, I.sc, fun x hx => ?_, fun p hp g hl => key _ _ (I.c1 p hp g hl), fun q hq k hk p hp h hh hd => key _ _ (I.c2 q hq k hk p hp h hh hd), I.c3⟩
  rcases List.mem_append.1 hx with hx | hx
  · exact I.sw x hx
  · exact hw x hx
theorem wt_mem {bg : List Pc} {k q : Pc} : q ∈ wtOf s bg k ↔ q ∈ bg ∧ keyOf s q = some k := by simp [wtOf]
theorem key_lab {H : SOk s} {q k : Pc} (hq : okP s q) (hk : keyOf s q = some k) : labP s q = (0, (k.2 : Int)) ∧ k.1 = q.1 := by
  unfold keyOf at hk
  by_cases h0 : (ndS s q).1.lab.1 = 0
  · rw [if_pos h0] at hk
    have hl : labP s q = (0, (ndS s q).1.lab.2) := Prod.ext h0 rfl
    have hv := head_var H hq hl
    have : (q.1, (ndS s q).1.lab.2.toNat) = k := by simpa using hk
    subst this
    exact ⟨by rw [hl]; simp [Int.toNat_of_nonneg hv.1], rfl⟩
  · rw [if_neg h0] at hk; cases hk
theorem Inv.came (H : SOk s) (V : StOk s σ) (I : Inv s R P σ No D) {k p : Pc} {σ' : St} (hc : Come s P σ k p σ') (hF : FlP s R true k p) : Inv s R P σ' No D := by
  rcases hc with ⟨_, rfl⟩ | ⟨_, ps, hps, _, rfl⟩
  · exact I
  have var : ∀ q h, q ∈ wtOf s σ.bg k → (p, h) ∈ σ.hl → FlP s R false q (h.1, h.2 + nA s p) := fun q h hq hh => by
    obtain ⟨q1, q2⟩ := wt_mem.1 hq
    obtain ⟨l1, l2⟩ := key_lab (H := H) (V.bgo q q1) q2
    have : k = (q.1, k.2) := Prod.ext l2 rfl
    exact .var (V.bgo q q1) l1 (this ▸ hF) (I.sh p h hh)
  refine ⟨I.sh, fun k' p' h => ?_, fun x hx => ?_, fun q hq g hl => ?_, fun q hq k' hk p' hp' h hh hd => ?_, fun p' h hh hr hd j hj ha => List.mem_append.2 (.inl (I.c3 p' h hh hr hd j hj ha))⟩
  · rcases List.mem_append.1 h with h | h
    · exact I.sc k' p' h
    · have : k' = k ∧ p' = p := by simpa using h
      obtain ⟨rfl, rfl⟩ := this; exact hF
  · rcases List.mem_append.1 hx with hx | hx
    · exact I.sw x hx
    · obtain ⟨y, hy, rfl⟩ := List.mem_map.1 hx
      obtain ⟨y1, y2⟩ := (hps y).1 hy
      rw [mem_pick] at y1
      exact ⟨y.2, _, .inr (.inr ⟨y.1, nA s p, rfl, rfl⟩), (wt_mem.1 y2).1, var _ _ y2 y1⟩
  · exact (I.c1 q hq g hl).mono (fun _ h => h) (fun x hx => List.mem_append.2 (.inl hx)) fun h => h.elim
  · rcases List.mem_append.1 hp' with h1 | h1
    · exact (I.c2 q hq k' hk p' h1 h hh hd).mono (fun _ h => h) (fun x hx => List.mem_append.2 (.inl hx)) fun h => h.elim
    · have : k' = k ∧ p' = p := by simpa using h1
      obtain ⟨rfl, rfl⟩ := this
      refine .inr (.inl ⟨clC 208 P (nA s p') (h, q), List.mem_append.2 (.inr (List.mem_map.2 ⟨(h, q), (hps _).2 ⟨mem_pick.2 hh, wt_mem.2 ⟨hq, hk⟩⟩, rfl⟩)), .inr (.inr ⟨h, nA s p', rfl, rfl⟩)⟩)
theorem Come.mem {k p : Pc} {σ' : St} (hc : Come s P σ k p σ') : (k, p) ∈ σ'.cl ∧ ∀ e, e ∈ σ.cl → e ∈ σ'.cl := by
  rcases hc with ⟨h, rfl⟩ | ⟨_, ps, hps, _, rfl⟩
  · exact ⟨h, fun _ h => h⟩
  · exact ⟨List.mem_append.2 (.inr (by simp)), fun e he => List.mem_append.2 (.inl he)⟩
theorem ComeL.mem {L : List (Pc × Pc)} {σ' : St} (hc : ComeL s P σ L σ') : (∀ e, e ∈ L → e ∈ σ'.cl) ∧ ∀ e, e ∈ σ.cl → e ∈ σ'.cl := by
  induction hc with
  | nil => exact ⟨fun e he => by (cases he), fun _ h => h⟩
  | snoc _ h2 ih =>
    obtain ⟨m1, m2⟩ := h2.mem
    refine ⟨fun e he => ?_, fun e he => m2 e (ih.2 e he)⟩
    rcases List.mem_append.1 he with he | he
    · exact m2 e (ih.1 e he)
    · have := List.mem_singleton.1 he
      subst this; exact m1
theorem ComeL.inv (H : SOk s) (V : StOk s σ) (I : Inv s R P σ No D) {L : List (Pc × Pc)} {σ' : St} (hc : ComeL s P σ L σ') (hF : ∀ e, e ∈ L → FlP s R true e.1 e.2) : Inv s R P σ' No D := by
  induction hc with
  | nil => exact I
  | snoc h1 h2 ih => exact (ih fun e he => hF e (List.mem_append.2 (.inl he))).came H (h1.ok V) h2 (hF (_, _) (List.mem_append.2 (.inr (List.mem_singleton.2 rfl))))
theorem argP_mem {p hd : Pc} {n : Nat} {e : Pc × Pc} : e ∈ argP s p hd n ↔ ∃ j, j < n ∧ hd.2 + j < ar s hd.1 ∧ e = ((hd.1, hd.2 + j), argAt s p j) := by
  simp only [argP, List.mem_map, List.mem_filter, List.mem_range, decide_eq_true_eq]
  exact ⟨fun ⟨j, ⟨h1, h2⟩, h3⟩ => ⟨j, h1, h2, h3.symm⟩, fun ⟨j, h1, h2, h3⟩ => ⟨j, ⟨h1, h2⟩, h3.symm⟩⟩
theorem Inv.added (H : SOk s) {bl : List Bool} (V : StOk s σ) (I : Inv s R P σ E No) {p0 h0 : Pc} (hE : ∀ q hd, E q hd → q = p0 ∧ hd = h0) (hF : FlP s R false p0 h0) (hR : ∀ f, bl.getD f false = true ↔ R f) {σ' : St} (hA : Add s bl P σ p0 h0 σ')
    (V0 : (p0, h0) ∉ σ.hl → StOk s (σ.addH p0 h0)) (hp0 : p0 ∈ σ.bg) : Inv s R P σ' No No ∧ StOk s σ' := by
  rcases hA with ⟨h, rfl⟩ | ⟨hn, σ1, hc, rfl⟩
  · exact ⟨I.had fun q hd he => by
      obtain ⟨rfl, rfl⟩ := hE q hd he; exact h, V⟩
  · have V0 := V0 hn
    have I0 := I.addH hE hF
    have hLF : ∀ e, e ∈ (if bl.getD p0.1 false = true then argP s p0 h0 (nA s p0) else []) → FlP s R true e.1 e.2 := fun e he => by
      by_cases hr : bl.getD p0.1 false = true
      · rw [if_pos hr] at he
        obtain ⟨j, h1, h2, rfl⟩ := argP_mem.1 he
        exact .arg (V.bgo p0 hp0) ((hR _).1 hr) hF h1 h2
      · rw [if_neg hr] at he; cases he
    have I1 := hc.inv H V0 I0 hLF
    have V1 := hc.ok V0
    obtain ⟨eb, eh, _⟩ := hc.bg
    have hh0 : (p0, h0) ∈ σ1.hl := by rw [eh]; exact List.mem_append.2 (.inr (by simp))
    have var : ∀ q k, q ∈ σ1.bg → keyOf s q = some k → (k, p0) ∈ σ1.cl → FlP s R false q (h0.1, h0.2 + nA s p0) := fun q k hq hk hkc => by
      obtain ⟨l1, l2⟩ := key_lab (H := H) (V1.bgo q hq) hk
      have : k = (q.1, k.2) := Prod.ext l2 rfl
      exact .var (V1.bgo q hq) l1 (this ▸ I1.sc k p0 hkc) hF
    have I2 : Inv s R P (σ1.push ((flatW s σ1 p0).map fun q => clC 188 P (h0.2 + nA s p0) (h0, q))) No fun p h => p = p0 ∧ h = h0 := I1.push fun x hx => by
      obtain ⟨q, hq, rfl⟩ := List.mem_map.1 hx
      obtain ⟨k, hk, hqk⟩ := List.mem_flatMap.1 hq
      obtain ⟨q1, q2⟩ := wt_mem.1 hqk
      exact ⟨q, _, .inr (.inl ⟨h0, h0.2 + nA s p0, rfl, rfl⟩), q1, var q k q1 q2 (mem_pick2.1 hk)⟩
    refine ⟨⟨I2.sh, I2.sc, I2.sw, I2.c1, fun q hq k hk p hp h hh _ => ?_, fun p h hh hr _ j hj ha => ?_⟩, V1.push fun x hx => ?_⟩
    · by_cases hd : p = p0 ∧ h = h0
      · obtain ⟨rfl, rfl⟩ := hd
        exact .inr (.inl ⟨clC 188 P (h.2 + nA s p) (h, q), List.mem_append.2 (.inr (List.mem_map.2 ⟨q, List.mem_flatMap.2 ⟨k, mem_pick2.2 hp, wt_mem.2 ⟨hq, hk⟩⟩, rfl⟩)), .inr (.inl ⟨h, _, rfl, rfl⟩)⟩)
      · exact I2.c2 q hq k hk p hp h hh hd
    · by_cases hd : p = p0 ∧ h = h0
      · obtain ⟨rfl, rfl⟩ := hd
        have hr2 := (hR _).2 hr
        refine hc.mem.1 _ ?_
        rw [if_pos hr2]
        exact argP_mem.2 ⟨j, hj, ha, rfl⟩
      · exact I2.c3 p h hh hr hd j hj ha
    · obtain ⟨q, _, rfl⟩ := List.mem_map.1 hx
      exact clC_fz _ _ _ _
theorem Inv.done (H : SOk s) (I : Inv s R P σ No No) (hw : σ.wk = []) (hall : ∀ q, okP s q → R q.1 → q ∈ σ.bg) {b : Bool} {x y : Pc} (h : FlP s R b x y) : (b = true → (x, y) ∈ σ.cl) ∧ (b = false → x ∈ σ.bg → (x, y) ∈ σ.hl) := by
  have pe : ∀ q hd, Pend s P σ No q hd → (q, hd) ∈ σ.hl := fun q hd h => by
    rcases h with h | ⟨x, hx, _⟩ | h
    · exact h
    · rw [hw] at hx; cases hx
    · exact h.elim
  induction h with
  | @fn p g hp hl => exact ⟨fun h => by (cases h), fun _ hb => pe _ _ (I.c1 p hb g hl)⟩
  | @var q p h i hq hl hc hh ihc ihh =>
    refine ⟨fun h => by (cases h), fun _ hb => ?_⟩
    have hcl := ihc.1 rfl
    obtain ⟨_, t2, t3, _⟩ := (hc.typed H).2 rfl
    have hpb := hall p t2 t3
    have hk : keyOf s q = some (q.1, i) := by
      have h1 : (ndS s q).1.lab.1 = 0 := congrArg Prod.fst hl
      have h2 : (ndS s q).1.lab.2 = i := congrArg Prod.snd hl
      simp [keyOf, h1, h2]
    exact pe _ _ (I.c2 q hb _ hk p hcl h (ihh.2 rfl hpb) fun h => h)
  | @arg p h j hp hr hh hj ha ih => exact ⟨fun _ => I.c3 p h (ih.2 rfl (hall p hp hr)) hr (fun h => h) j hj ha, fun h => by (cases h)⟩
end
end Am
