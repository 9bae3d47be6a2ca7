/- Flow, plain: how much there can be; the work ends. -/
import Derived.Test.YtoifckjdnldlpaaGreatZFk
set_option linter.unusedVariables false
set_option linter.unusedSimpArgs false
namespace Am
open Go Go.Proofs.Tryz
def allHd (s : Sch) : List Pc := (List.range s.funs.length).flatMap fun g => (List.range (ar s g + 1)).map fun m => (g, m)
def allKy (s : Sch) : List Pc := (List.range s.funs.length).flatMap fun g => (List.range (ar s g)).map fun m => (g, m)
def allPl (s : Sch) : List Pc := (List.range s.funs.length).flatMap fun f => (List.range (s.funs.getD f default).body.nodes).map fun i => (f, i)
theorem flat_le {α β : Type} {f : α → List β} {m : Nat} : ∀ {l : List α}, (∀ a, a ∈ l → (f a).length ≤ m) → (l.flatMap f).length ≤ l.length * m
  | [], _ => by simp
  | a :: l, h => by
    rw [List.flatMap_cons, List.length_append, List.length_cons, Nat.succ_mul]
    have h1 := h a (by simp)
    have h2 := flat_le (l := l) fun b hb => h b (by simp [hb])
    omega
theorem ar_le {s : Sch} (H : SOk s) {f : Nat} (hf : f < s.funs.length) : ar s f ≤ 8 := by
  have h := H.srt (getD_mem hf)
  rw [okS_iff] at h
  unfold ar
  obtain ⟨_, _, h3⟩ := h
  cases hs : (s.funs.getD f default).sort with
  | mk a us =>
    rw [hs, few_iff] at h3
    exact h3.2
theorem allHd_len {s : Sch} (H : SOk s) : (allHd s).length ≤ 576 := by
  have := flat_le (m := 9) (f := fun g => (List.range (ar s g + 1)).map fun m => (g, m)) (l := List.range s.funs.length) fun g hg => by
    have := ar_le H (List.mem_range.1 hg)
    simp; omega
  have hf := H.few
  rw [List.length_range] at this
  unfold allHd; omega
theorem allKy_len {s : Sch} (H : SOk s) : (allKy s).length ≤ 512 := by
  have := flat_le (m := 8) (f := fun g => (List.range (ar s g)).map fun m => (g, m)) (l := List.range s.funs.length) fun g hg => by
    have := ar_le H (List.mem_range.1 hg)
    simp; omega
  have hf := H.few
  rw [List.length_range] at this
  unfold allKy; omega
theorem mem_allPl {s : Sch} {p : Pc} : p ∈ allPl s ↔ okP s p := by
  simp only [allPl, List.mem_flatMap, List.mem_range, List.mem_map, okP]
  exact ⟨fun ⟨f, h1, i, h2, h3⟩ => by subst h3; exact ⟨h1, h2⟩, fun ⟨h1, h2⟩ => ⟨p.1, h1, p.2, h2, rfl⟩⟩
theorem mem_allHd {s : Sch} {p : Pc} : p ∈ allHd s ↔ p.1 < s.funs.length ∧ p.2 ≤ ar s p.1 := by
  simp only [allHd, List.mem_flatMap, List.mem_range, List.mem_map]
  exact ⟨fun ⟨f, h1, i, h2, h3⟩ => by subst h3; exact ⟨h1, by show i ≤ ar s f; omega⟩, fun ⟨h1, h2⟩ => ⟨p.1, h1, p.2, by omega, rfl⟩⟩
theorem mem_allKy {s : Sch} {p : Pc} : p ∈ allKy s ↔ okK s p := by
  simp only [allKy, List.mem_flatMap, List.mem_range, List.mem_map, okK]
  exact ⟨fun ⟨f, h1, i, h2, h3⟩ => by subst h3; exact ⟨h1, h2⟩, fun ⟨h1, h2⟩ => ⟨p.1, h1, p.2, h2, rfl⟩⟩
theorem nd_nodes (t : Tm) : ∀ e i, e ∈ ndF i t → e.1.nodes ≤ t.nodes := by
  refine Rt.ind (P := fun t => ∀ e i, e ∈ ndF i t → e.1.nodes ≤ t.nodes) (fun a us ih => ?_) t
  intro e i he
  rw [ndF, List.mem_cons] at he
  rcases he with rfl | he
  · exact Nat.le_refl _
  · obtain ⟨q, hq, e1⟩ := List.mem_iff_getElem.1 he
    have hq2 : q < Rt.nodesL us := by rwa [ndFL_len'] at hq
    obtain ⟨m, hm, r, hr, e2⟩ := nodesL_find hq2
    have := ndFL_get (i := i + 1) hm hr
    rw [← e2, List.getElem?_eq_getElem hq, e1] at this
    have h1 := ih us[m] (List.getElem_mem hm) _ _ (List.mem_of_getElem? this.symm)
    have h2 := kid_nodes hm
    simp only [Rt.nodes]; omega
theorem nA_le {s : Sch} (H : SOk s) {p : Pc} (hp : okP s p) : nA s p ≤ 400 := by
  rw [(nd_args hp).1]
  have h1 := nd_nodes _ _ _ (List.mem_of_getElem? (ndS_get hp))
  have h2 := H.body (getD_mem hp.1)
  have h3 := Rt.length_le (ndS s p).1.kids
  cases hu : (ndS s p).1 with
  | mk a us => rw [hu] at h1 h3; simp only [Rt.kids, Rt.nodes] at h1 h3 ⊢; omega
def Small (s : Sch) : Prop := (allPl s).length ≤ 150
section
variable {s : Sch} {R : Nat → Prop} {P : Nat} {σ : St} {E D : Pc → Pc → Prop}
theorem Inv.heads_le (H : SOk s) (V : StOk s σ) (I : Inv s R P σ E D) (p : Pc) : (pick σ.hl p).length ≤ 576 :=
  Nat.le_trans (List.Nodup.length_le_of_subset (pick_nodup V.hln p) fun h hh => by
    obtain ⟨_, h2, h3, _⟩ := ((I.sh p h (mem_pick.1 hh)).typed H).1 rfl
    exact mem_allHd.2 ⟨h2, h3⟩) (allHd_len H)
theorem bg_le (Sm : Small s) (V : StOk s σ) : σ.bg.length ≤ 150 :=
  Nat.le_trans (List.Nodup.length_le_of_subset V.bgn fun p hp => mem_allPl.2 (V.bgo p hp)) Sm
theorem wt_le (Sm : Small s) (V : StOk s σ) (k : Pc) : (wtOf s σ.bg k).length ≤ 150 := Nat.le_trans (List.length_filter_le _ _) (bg_le Sm V)
theorem pair_le {A B : List Pc} {l : List (Pc × Pc)} (hn : l.Nodup) (h : ∀ e, e ∈ l → e.1 ∈ A ∧ e.2 ∈ B) : l.length ≤ A.length * B.length := by
  have h1 : (A.flatMap fun a => B.map fun b => (a, b)).length ≤ A.length * B.length := flat_le fun a _ => by simp
  exact Nat.le_trans (List.Nodup.length_le_of_subset hn fun e he => List.mem_flatMap.2 ⟨e.1, (h e he).1, List.mem_map.2 ⟨e.2, (h e he).2, rfl⟩⟩) h1
theorem Inv.cl_le (H : SOk s) (Sm : Small s) (V : StOk s σ) (I : Inv s R P σ E D) : σ.cl.length ≤ 76800 := by
  have := pair_le (A := allKy s) (B := allPl s) V.cln fun e he => by
    obtain ⟨h1, h2, _⟩ := ((I.sc e.1 e.2 he).typed H).2 rfl
    exact ⟨mem_allKy.2 h1, mem_allPl.2 h2⟩
  have := Nat.le_trans this (Nat.mul_le_mul (allKy_len H) Sm)
  omega
theorem Inv.hl_le (H : SOk s) (Sm : Small s) (V : StOk s σ) (I : Inv s R P σ E D) : σ.hl.length ≤ 86400 := by
  have := pair_le (A := allPl s) (B := allHd s) V.hln fun e he => by
    obtain ⟨h1, h2, h3, _⟩ := ((I.sh e.1 e.2 he).typed H).1 rfl
    exact ⟨mem_allPl.2 h1, mem_allHd.2 ⟨h2, h3⟩⟩
  have := Nat.le_trans this (Nat.mul_le_mul Sm (allHd_len H))
  omega
theorem Inv.into_le (H : SOk s) (V : StOk s σ) (I : Inv s R P σ E D) (p : Pc) : (pick2 σ.cl p).length ≤ 512 :=
  Nat.le_trans (List.Nodup.length_le_of_subset (pick2_nodup V.cln p) fun k hk => by
    obtain ⟨h1, _⟩ := ((I.sc k p (mem_pick2.1 hk)).typed H).2 rfl
    exact mem_allKy.2 h1) (allKy_len H)
theorem Inv.flat_le (H : SOk s) (Sm : Small s) (V : StOk s σ) (I : Inv s R P σ E D) (p : Pc) : (flatW s σ p).length ≤ 76800 := by
  have h1 := Am.flat_le (m := 150) (f := wtOf s σ.bg) (l := pick2 σ.cl p) fun k _ => wt_le Sm V k
  have h2 := Nat.mul_le_mul (I.into_le H V p) (Nat.le_refl 150)
  unfold flatW; omega
theorem Come.wk_le (H : SOk s) (Sm : Small s) (V : StOk s σ) (I : Inv s R P σ E D) {k p : Pc} {σ' : St} (hc : Come s P σ k p σ') : σ'.wk.length ≤ σ.wk.length + 86400 := by
  rcases hc with ⟨_, rfl⟩ | ⟨_, ps, _, hl, rfl⟩
  · omega
  · have := Nat.mul_le_mul (I.heads_le H V p) (wt_le Sm V k)
    simp only [St.push, List.length_append, List.length_map, hl]; omega
theorem ComeL.wk_le (H : SOk s) (Sm : Small s) (V : StOk s σ) (I : Inv s R P σ No D) {L : List (Pc × Pc)} {σ' : St} (hc : ComeL s P σ L σ') (hF : ∀ e, e ∈ L → FlP s R true e.1 e.2) : σ'.wk.length ≤ σ.wk.length + L.length * 86400 := by
  induction hc with
  | nil => simp
  | snoc h1 h2 ih =>
    have hF1 := fun e he => hF e (List.mem_append.2 (.inl he))
    have i1 := ih hF1
    have i2 := h2.wk_le H Sm (h1.ok V) (h1.inv H V I hF1)
    rw [List.length_append, List.length_cons, List.length_nil]
    omega
theorem argP_len (p hd : Pc) (n : Nat) : (argP s p hd n).length ≤ n := by
  simp only [argP, List.length_map]
  exact Nat.le_trans (List.length_filter_le _ _) (by simp)
theorem add_sizes (H : SOk s) (Sm : Small s) {bl : List Bool} (hR : ∀ f, bl.getD f false = true ↔ R f) {p hd : Pc} (hp : okP s p) (V0 : StOk s (σ.addH p hd)) (I0 : Inv s R P (σ.addH p hd) No D) (hF : FlP s R false p hd) (hw : σ.wk.length ≤ 5000000000000) {L : List (Pc × Pc)} {σ1 : St}
    (hc : ComeL s P (σ.addH p hd) L σ1) (hj : ∃ j, j ≤ nA s p ∧ L = argP s p hd j) (hb : L = [] ∨ bl.getD p.1 false = true) :
    (σ1.cl.length ≤ 1000000 ∧ (∀ k q, q ∈ σ.bg → okK s k → σ1.wk.length + (pick σ1.hl q).length * (wtOf s σ1.bg k).length ≤ 10000000000000) ∧ σ1.wk.length + (flatW s σ1 p).length ≤ 10000000000000) ∧ σ1.wk.length + (flatW s σ1 p).length ≤ σ.wk.length + 34636800 := by
  obtain ⟨j, hj1, rfl⟩ := hj
  have hLF : ∀ e, e ∈ argP s p hd j → FlP s R true e.1 e.2 := fun e he => by
    rcases hb with hb | hb
    · rw [hb] at he; cases he
    · obtain ⟨i, h1, h2, rfl⟩ := argP_mem.1 he
      exact .arg hp ((hR _).1 hb) hF (by omega) h2
  have V1 := hc.ok V0
  have I1 := hc.inv H V0 I0 hLF
  have h1 := hc.wk_le H Sm V0 I0 hLF
  have h2 := I1.cl_le H Sm V1
  have h3 := I1.flat_le H Sm V1 p
  have h4 := nA_le H hp
  have h5 : (argP s p hd j).length ≤ 400 := by have := argP_len (s := s) p hd j; omega
  have h6 := Nat.mul_le_mul h5 (Nat.le_refl 86400)
  have h7 : (σ.addH p hd).wk.length = σ.wk.length := rfl
  refine ⟨⟨by omega, fun k q _ _ => ?_, by omega⟩, by omega⟩
  have := Nat.mul_le_mul (I1.heads_le H V1 q) (wt_le Sm V1 k)
  omega
def meas (σ : St) : Nat := (86400 - σ.hl.length) * 34636801 + σ.wk.length
theorem Add.meas (H : SOk s) (Sm : Small s) {bl : List Bool} (hR : ∀ f, bl.getD f false = true ↔ R f) (V : StOk s σ) (I : Inv s R P σ E No) {p hd : Pc} (hE : ∀ q h, E q h → q = p ∧ h = hd) (hpb : p ∈ σ.bg) (hF : FlP s R false p hd) (hw : σ.wk.length ≤ 5000000000000) {σ' : St} (hA : Add s bl P σ p hd σ') :
    Am.meas σ' ≤ Am.meas σ := by
  rcases hA with ⟨_, rfl⟩ | ⟨hn, σ1, hc, rfl⟩
  · exact Nat.le_refl _
  · have V0 := V.addH hn hpb
    have I0 := I.addH hE hF
    have hp := V.bgo p hpb
    obtain ⟨eb, eh, _⟩ := hc.bg
    have hle := I0.hl_le H Sm V0
    have e1 : (σ.addH p hd).hl.length = σ.hl.length + 1 := by simp [St.addH]
    have key : σ1.wk.length + (flatW s σ1 p).length ≤ σ.wk.length + 34636800 := by
      by_cases hr : bl.getD p.1 false = true
      · rw [if_pos hr] at hc
        exact (add_sizes H Sm hR hp V0 I0 hF hw hc ⟨_, Nat.le_refl _, rfl⟩ (.inr hr)).2
      · rw [if_neg hr] at hc
        exact (add_sizes H Sm hR hp V0 I0 hF hw hc ⟨0, Nat.zero_le _, by simp [argP]⟩ (.inl rfl)).2
    have e2 : (σ1.push ((flatW s σ1 p).map fun q => clC 188 P (hd.2 + nA s p) (hd, q))).hl = σ1.hl := rfl
    have e3 : (σ1.push ((flatW s σ1 p).map fun q => clC 188 P (hd.2 + nA s p) (hd, q))).wk.length = σ1.wk.length + (flatW s σ1 p).length := by simp [St.push]
    simp only [Am.meas, e2, e3, eh, e1]
    omega
theorem Inv.beg (H : SOk s) (V : StOk s σ) (I : Inv s R P σ No No) (hh : σ.hl = []) (hc : σ.cl = []) {p : Pc} (hp : okP s p) : Inv s R P (σ.beg s P p) No No := by
  have e1 : (σ.beg s P p).hl = [] := hh
  have e2 : (σ.beg s P p).cl = [] := hc
  have e3 : (σ.beg s P p).wk = σ.wk ++ (if (ndS s p).1.lab.1 = 1 then [clB P p (ndS s p).1] else []) := rfl
  have e4 : (σ.beg s P p).bg = σ.bg ++ [p] := rfl
  have hg : labP s p = (labP s p) := rfl
  refine ⟨fun q h hq => (by rw [e1] at hq; cases hq), fun k q hq => (by rw [e2] at hq; cases hq), fun x hx => ?_, fun q hq g hl => ?_, fun q hq k hk p' hp' => (by rw [e2] at hp'; cases hp'), fun q h hq => (by rw [e1] at hq; cases hq)⟩
  · rw [e3] at hx
    rcases List.mem_append.1 hx with hx | hx
    · obtain ⟨q, hd, h1, h2, h3⟩ := I.sw x hx
      exact ⟨q, hd, h1, by rw [e4]; exact List.mem_append.2 (.inl h2), h3⟩
    · by_cases k1 : (ndS s p).1.lab.1 = 1
      · rw [if_pos k1] at hx
        have : x = clB P p (ndS s p).1 := by simpa using hx
        subst this
        have hl : labP s p = (1, (ndS s p).1.lab.2) := Prod.ext k1 rfl
        have hv := head_fun H hp hl
        have hl2 : labP s p = (1, (((ndS s p).1.lab.2.toNat : Nat) : Int)) := by rw [Int.toNat_of_nonneg hv.1]; exact hl
        exact ⟨p, _, .inl ⟨_, rfl, hl2, rfl⟩, by rw [e4]; exact List.mem_append.2 (.inr (by simp)), .fn hp hl2⟩
      · rw [if_neg k1] at hx; cases hx
  · rw [e4] at hq
    rcases List.mem_append.1 hq with hq | hq
    · exact (I.c1 q hq g hl).mono (fun e he => he) (fun x hx => by rw [e3]; exact List.mem_append.2 (.inl hx)) fun h => h.elim
    · have : q = p := by simpa using hq
      subst this
      have k1 : (ndS s q).1.lab.1 = 1 := congrArg Prod.fst hl
      exact .inr (.inl ⟨clB P q (ndS s q).1, by rw [e3, if_pos k1]; exact List.mem_append.2 (.inr (by simp)), .inl ⟨g, rfl, hl, rfl⟩⟩)
end
end Am
