/- A new local variable and another operation, exchanged; lists. -/
import Derived.Test.YtoifckjdnldlpaaD7
set_option linter.unusedVariables false
set_option linter.unusedSimpArgs false
namespace Am
open Go
section
variable {P : Program} {cf : Cfg} {fz : Fz} {env : Env} {loc : Loc} {h : Heap} {o : Oper} {e e' : Operand → TV} {ops : Array Oper} {k : K}
theorem hasLoc_eq : ∀ {l : List TV} {d : Nat}, hasLoc l d = false ↔ ∀ t off, nth l t ≠ .loc d off
  | [], d => ⟨fun _ t off h => (by rw [nth_dead (by simp)] at h; cases h), fun _ => rfl⟩
  | x :: xs, d => by
    have ih := hasLoc_eq (l := xs) (d := d)
    have e1 : hasLoc (x :: xs) d = (match x with | .loc u _ => (match Nat.beq u d with | true => true | false => hasLoc xs d) | _ => hasLoc xs d) := rfl
    have hs : ∀ t, nth (x :: xs) (t + 1) = nth xs t := fun t => by simp [nth_eq]
    have h0 : nth (x :: xs) 0 = x := rfl
    constructor
    · intro h t off
      cases t with
      | zero =>
        rw [h0]
        rintro rfl
        rw [e1] at h
        simp at h
      | succ t =>
        rw [hs]
        refine ih.1 ?_ t off
        rw [e1] at h
        split at h
        · split at h
          · cases h
          · exact h
        · exact h
    · intro h
      have h2 := ih.2 fun t off => by rw [← hs]; exact h (t + 1) off
      rw [e1]
      split
      · rename_i u off
        split
        · rename_i hb; exact (h 0 off (by rw [h0, nbeq.1 hb])).elim
        · exact h2
      · exact h2
theorem map_kill {l : List TV} {d : Nat} (h : ∀ t off, nth l t ≠ .loc d off) : l.map (kill1 d) = l := by
  have : ∀ x, x ∈ l → kill1 d x = x := fun x hx => by
    obtain ⟨t, ht, rfl⟩ := List.getElem_of_mem hx
    have h1 := h t
    have e1 : nth l t = l[t] := by simp [nth_eq, List.getD_eq_getElem?_getD, ht]
    rw [e1] at h1
    cases hl : l[t] with
    | loc u off =>
      rw [hl] at h1
      simp only [kill1]
      rw [if_neg (fun e => h1 off (by rw [e]))]
    | _ => rfl
  conv => rhs; rw [← List.map_id l]
  exact List.map_congr_left this
theorem var_elim {dst : Option Tmp} {cs : List AV} {kk : Env → Loc → Prop} (hd : fz.d = true) (hk : varC fz env loc dst (varK fz env loc dst cs kk)) :
    ∃ d, dst = some d ∧ lkp loc d = none ∧ (∀ t off, nth env t ≠ .loc d off) ∧ may fz.t d = true ∧ nmem fz.a d = false ∧ kk (env.set d (.loc d 0)) (lset loc d cs) := by
  have hk2 := varC_elim hk
  unfold varC at hk
  rw [hd] at hk
  cases dst with
  | none => exact (show False from hk).elim
  | some d =>
    simp only at hk
    split at hk
    · exact (show False from hk).elim
    · rename_i h1
      split at hk
      · exact (show False from hk).elim
      · rename_i h2
        have h3 := hasLoc_eq.1 h2
        unfold varK at hk2
        simp only at hk2
        split at hk2
        · exact (show False from hk2).elim
        · rename_i h4
          split at hk2
          · exact (show False from hk2).elim
          · rename_i h5
            simp only [killK_eq, setK_eq, lsetK_eq, map_kill h3] at hk2
            exact ⟨d, rfl, h1, h3, h4, h5, hk2⟩
theorem var_intro {d : Tmp} {cs : List AV} {kk : Env → Loc → Prop} (hd : fz.d = true) (h1 : lkp loc d = none) (h3 : ∀ t off, nth env t ≠ .loc d off) (h4 : may fz.t d = true) (h5 : nmem fz.a d = false)
    (hk : kk (env.set d (.loc d 0)) (lset loc d cs)) : varC fz env loc (some d) (varK fz env loc (some d) cs kk) := by
  unfold varC varK
  rw [hd]
  simp only [h1, hasLoc_eq.2 h3, h4, h5, killK_eq, setK_eq, lsetK_eq, map_kill h3]
  exact hk
/-- What a local variable's operation does. -/
theorem L_elim {j : Oper} (hd : fz.d = true) (hL : isL cf j = true) (hg : j.guard = none) (hk : awpOne P cf fz ops j k env loc h) :
    ∃ d cs, j.dst = some d ∧ lkp loc d = none ∧ (∀ t off, nth env t ≠ .loc d off) ∧ k (env.set d (.loc d 0)) (lset loc d cs) h ∧
      ∀ env2 loc2 h2 (k2 : K), (∀ x, x ∈ opnds j → ev env2 x = ev env x) → lkp loc2 d = none → (∀ t off, nth env2 t ≠ .loc d off) → k2 (env2.set d (.loc d 0)) (lset loc2 d cs) h2 → awpOne P cf fz ops j k2 env2 loc2 h2 := by
  unfold awpOne at hk ⊢
  split at hk
  · exact (show False from hk).elim
  · rename_i hty
    rw [hg] at hk
    simp only [hg, hty] at hk ⊢
    unfold isL at hL
    unfold aop at hk ⊢
    unfold opnds
    cases hop : j.op with
    | box t x =>
      rw [hop] at hL hk
      have he : nmem cf.esc (j.dst.getD 0) = false := by simpa using hL
      simp only [he] at hk ⊢
      obtain ⟨cs, hk1, hb⟩ := cellsK_det _ hk
      obtain ⟨d, h1, h2, h3, h4, h5, h6⟩ := var_elim hd hk1
      refine ⟨d, cs, h1, h2, h3, h6, fun env2 loc2 h2' k2 a1 a2 a3 a4 => ?_⟩
      rw [a1 x (by simp)]
      refine hb (fun cs => varC fz env2 loc2 j.dst (varK fz env2 loc2 j.dst cs fun env loc => k2 env loc h2')) ?_
      rw [h1]
      exact var_intro hd a2 a3 h4 h5 a4
    | alloc t =>
      rw [hop] at hL hk
      have he : nmem cf.esc (j.dst.getD 0) = false := by simpa using hL
      simp only [he] at hk ⊢
      obtain ⟨d, h1, h2, h3, h4, h5, h6⟩ := var_elim hd hk
      refine ⟨d, _, h1, h2, h3, h6, fun env2 loc2 h2' k2 a1 a2 a3 a4 => ?_⟩
      rw [h1]
      exact var_intro hd a2 a3 h4 h5 a4
    | _ => rw [hop] at hL; cases hL
theorem isL_notStore {j : Oper} (hL : isL cf j = true) : isStore j = false := by
  unfold isL at hL
  unfold isStore
  cases hop : j.op with
  | store t x v => rw [hop] at hL; cases hL
  | _ => rfl
theorem semG_ext {loc2 : Loc} {k : TV → Heap → Prop} (hs : isStore o = false) (he : ∀ x, x ∈ looks ops o → ∀ u off, e x = .loc u off → lkp loc2 u = lkp loc u) :
    semG P cf fz ops o e loc h (fun y _ h => k y h) = semG P cf fz ops o e loc2 h fun y _ h => k y h := by
  unfold semG
  unfold looks at he
  cases opTy cf o with
  | false => rfl
  | true =>
    simp only
    cases hg : o.guard with
    | none => rw [hg] at he; exact sem_ext hs he
    | some gw =>
      obtain ⟨j, want⟩ := gw
      rw [hg] at he
      simp only at he ⊢
      cases ht : dstOf ops j with
      | none => rfl
      | some t =>
        rw [ht] at he
        simp only at he ⊢
        rw [sem_ext hs (fun x hx => he x (by simp [hx]))]
theorem semG_nol {d : Nat} {K : TV → Loc → Heap → Prop} (he : ∀ x, x ∈ looks ops o → ∀ off, e x ≠ .loc d off) (hk : semG P cf fz ops o e loc h K) :
    semG P cf fz ops o e loc h fun y l h => (∀ off, y ≠ .loc d off) ∧ K y l h := by
  unfold semG at hk ⊢
  unfold looks at he
  cases ho : opTy cf o with
  | false => rw [ho] at hk; exact hk
  | true =>
    rw [ho] at hk
    simp only at hk ⊢
    cases hg : o.guard with
    | none => rw [hg] at hk he; exact sem_nol he hk
    | some gw =>
      obtain ⟨j, want⟩ := gw
      rw [hg] at hk he
      simp only at hk he ⊢
      cases ht : dstOf ops j with
      | none => rw [ht] at hk; exact hk
      | some t =>
        rw [ht] at hk he
        simp only at hk he
        exact grdS_mono (sem_nol (fun x hx => he x (by simp [hx]))) (fun hk => ⟨fun off => by simp, hk⟩) hk
theorem ev_noloc {d : Nat} (h : ∀ t off, nth env t ≠ .loc d off) (x : Operand) (off : Nat) : ev env x ≠ .loc d off := by
  cases x with
  | tmp t => exact h t off
  | const v =>
    show cAV v ≠ _
    unfold cAV
    split
    · simp
    · simp
    · split <;> simp [DD_eq]
  | func f => intro h; cases h
  | global g => intro h; cases h
theorem nrm_loc {g : Bool} {z : TV} {u off : Nat} (h : nrm g z = .loc u off) : z = .loc u off := by
  unfold nrm at h
  split at h
  · cases h
  · exact h
theorem exchL (hd : fz.d = true) {i j : Oper} (hL : isL cf j = true) (hg : j.guard = none) (hLi : isL cf i = false) (hs : isStore i = false)
    (n1 : ∀ d, j.dst = some d → ∀ x, x ∈ looks ops i → x ≠ .tmp d) (n2 : ∀ d, i.dst = some d → ∀ x, x ∈ opnds j → x ≠ .tmp d) (n3 : ∀ d, j.dst = some d → i.dst ≠ some d)
    (hk : awpOne P cf fz ops j (awpOne P cf fz ops i k) env loc h) : awpOne P cf fz ops i (awpOne P cf fz ops j k) env loc h := by
  obtain ⟨d, cs, h1, h2, h3, hy, hback⟩ := L_elim hd hL hg hk
  have hp : ∀ env : Env, env.set d (.loc d 0) = putE fz.g env j.dst (.loc d 0) := fun env => by
    rw [h1]; unfold putE; simp only; cases nmem fz.g d <;> rfl
  rw [hp, one_semG hd hLi, semG_congr (e' := ev env) (fun x hx => ev_putE (fun d hd => n1 d hd x hx)), semG_noloc hs,
    semG_ext (loc2 := loc) hs (fun x hx u off he => by
      rw [lkp_lset]
      split
      · rename_i e; subst e; exact (ev_noloc h3 x off he).elim
      · rfl)] at hy
  rw [one_semG hd hLi, semG_noloc hs]
  refine semG_mono (fun z _ h' hz => ?_) (semG_nol (d := d) (fun x hx off => ev_noloc h3 x off) hy)
  obtain ⟨hz1, hz⟩ := hz
  obtain ⟨hz, hm2⟩ := putK_elim hz
  refine putK_intro hm2 (hback _ _ _ _ (fun x hx => ev_putE (fun d hd => n2 d hd x hx)) h2 (fun t off => ?_) ?_)
  · unfold putE
    split
    · exact h3 t off
    · rw [nth_set]
      split
      · exact fun h => hz1 off (nrm_loc h)
      · exact h3 t off
  · rw [hp, putE_comm n3]
    exact hz
end
end Am
