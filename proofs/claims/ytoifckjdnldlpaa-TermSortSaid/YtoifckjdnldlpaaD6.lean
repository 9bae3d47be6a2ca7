/- A pure operation and another, exchanged. -/
import Derived.Test.YtoifckjdnldlpaaD5
set_option linter.unusedVariables false
set_option linter.unusedSimpArgs false
namespace Am
open Go
def isStore (o : Oper) : Bool := match o.op with
  | .store _ _ _ => true
  | _ => false
/-- A value told of a guard. -/
def nrm (gd : Bool) (y : TV) : TV := match gd, y with
  | true, .av (.val (.bool b)) => .bl b
  | _, y => y
noncomputable def putE (gs : List Nat) (env : Env) (dst : Option Tmp) (y : TV) : Env := match dst with
  | none => env
  | some d => env.set d (nrm (nmem gs d) y)
/-- What a put asks besides. -/
def putOk (fz : Fz) (dst : Option Tmp) (y : TV) : Prop := ∀ d, dst = some d → may fz.t d = true ∧ (nmem fz.g d = true → ∀ c, y = .av c → ∃ b, c = .val (.bool b))
section
variable {P : Program} {cf : Cfg} {fz : Fz} {env : Env} {loc : Loc} {h : Heap} {o : Oper} {e e' : Operand → TV} {ops : Array Oper} {k : K}
theorem putK_elim {dst : Option Tmp} {y : TV} {k : Env → Prop} (hk : putK fz env dst y k) : k (putE fz.g env dst y) ∧ putOk fz dst y := by
  unfold putK at hk
  cases dst with
  | none => exact ⟨hk, fun d h => by cases h⟩
  | some d =>
    simp only at hk
    unfold putE
    simp only
    cases hm : may fz.t d with
    | false => rw [hm] at hk; exact (show False from hk).elim
    | true =>
      rw [hm] at hk
      simp only at hk
      cases hg : nmem fz.g d with
      | false =>
        rw [hg] at hk
        simp only [setK_eq] at hk
        refine ⟨?_, fun d' h => by cases h; exact ⟨hm, fun h => by rw [hg] at h; cases h⟩⟩
        cases y <;> exact hk
      | true =>
        rw [hg] at hk
        simp only [setK_eq] at hk
        split at hk
        · rename_i c
          unfold brA at hk
          split at hk
          · rename_i x
            refine ⟨?_, fun d' h => by cases h; exact ⟨hm, fun _ c hc => by cases hc; exact ⟨_, rfl⟩⟩⟩
            cases x
            · exact hk.2 rfl
            · exact hk.1 rfl
          · exact hk.elim
        · rename_i hne
          refine ⟨?_, fun d' h => by cases h; exact ⟨hm, fun _ c hc => (hne c hc).elim⟩⟩
          cases y <;> first | exact hk | exact (hne _ rfl).elim
theorem putK_intro {dst : Option Tmp} {y : TV} {k : Env → Prop} (hm : putOk fz dst y) (hk : k (putE fz.g env dst y)) : putK fz env dst y k := by
  unfold putK
  cases dst with
  | none => exact hk
  | some d =>
    obtain ⟨h1, h2⟩ := hm d rfl
    unfold putE at hk
    simp only at hk ⊢
    rw [h1]
    simp only
    cases hg : nmem fz.g d with
    | false =>
      rw [hg] at hk
      simp only [setK_eq]
      cases y <;> exact hk
    | true =>
      rw [hg] at hk
      simp only [setK_eq]
      cases y with
      | av c =>
        obtain ⟨x, rfl⟩ := h2 hg c rfl
        cases x
        · exact ⟨fun h => (by cases h), fun _ => hk⟩
        · exact ⟨fun _ => hk, fun h => (by cases h)⟩
      | _ => exact hk
theorem ev_putE {gs : List Nat} {dst : Option Tmp} {y : TV} {x : Operand} (hx : ∀ d, dst = some d → x ≠ .tmp d) : ev (putE gs env dst y) x = ev env x := by
  cases dst with
  | none => rfl
  | some d =>
    cases x with
    | tmp t =>
      show nth (env.set d _) t = nth env t
      rw [nth_set, if_neg (fun h => hx d rfl (by rw [h.1]))]
    | _ => rfl
theorem putE_comm {gs : List Nat} {d1 d2 : Option Tmp} {y z : TV} (hne : ∀ d, d1 = some d → d2 ≠ some d) : putE gs (putE gs env d2 z) d1 y = putE gs (putE gs env d1 y) d2 z := by
  cases d1 with
  | none => rfl
  | some a =>
    cases d2 with
    | none => rfl
    | some b =>
      have : a ≠ b := fun e => hne a rfl (by rw [e])
      exact List.set_comm _ _ this.symm
theorem sem_noloc (hs : isStore o = false) {K : TV → Loc → Heap → Prop} : sem P cf fz o e loc h K = sem P cf fz o e loc h fun y _ h => K y loc h := by
  unfold isStore at hs
  unfold sem
  cases hop : o.op with
  | unOp op t x => cases op <;> rfl
  | makeFunc f first caps => cases f <;> rfl
  | call c =>
    obtain ⟨callee, args, ts⟩ := c
    cases callee with
    | value x => cases x <;> rfl
    | builtin bi => cases bi <;> rfl
    | invoke r n => rfl
  | _ => (rw [hop] at hs) <;> first | rfl | (cases hs; done)
theorem semG_noloc (hs : isStore o = false) {K : TV → Loc → Heap → Prop} : semG P cf fz ops o e loc h K = semG P cf fz ops o e loc h fun y _ h => K y loc h := by
  unfold semG
  rw [sem_noloc hs]
theorem exch (hd : fz.d = true) {i j : Oper} (hLj : isL cf j = false) (hLi : isL cf i = false) (hj : like cf j = true)
    (n1 : ∀ d, j.dst = some d → ∀ x, x ∈ looks ops i → x ≠ .tmp d) (n2 : ∀ d, i.dst = some d → ∀ x, x ∈ looks ops j → x ≠ .tmp d) (n3 : ∀ d, j.dst = some d → i.dst ≠ some d)
    (hc : like cf i = true ∨ (reads j = true → isStore i = false ∧ nmem cf.own (j.dst.getD 0) = false))
    (hk : awpOne P cf fz ops j (awpOne P cf fz ops i k) env loc h) : awpOne P cf fz ops i (awpOne P cf fz ops j k) env loc h := by
  rw [one_semG hd hLj, semG_like hj] at hk
  obtain ⟨y, hy, hback⟩ := semG_det hj _ hk
  obtain ⟨hy, hm1⟩ := putK_elim hy
  rw [one_semG hd hLi, semG_congr (e' := ev env) (fun x hx => ev_putE (fun d hd => n1 d hd x hx))] at hy
  rw [one_semG hd hLi]
  have fin : ∀ z loc' h', (reads j = true → ∀ u, (lkp loc u).isSome → lkp loc' u = lkp loc u) → (reads j = true → nmem cf.own (j.dst.getD 0) = true → h' = h) →
      putK fz (putE fz.g env j.dst y) i.dst z (fun env => k env loc' h') → putK fz env i.dst z (fun env => awpOne P cf fz ops j k env loc' h') := by
    intro z loc' h' s1 s2 hz
    obtain ⟨hz, hm2⟩ := putK_elim hz
    refine putK_intro hm2 ?_
    rw [one_semG hd hLj, semG_like hj, semG_congr (e' := ev env) (fun x hx => ev_putE (fun d hd => n2 d hd x hx))]
    refine semG_stable hj hd s1 s2 (hback _ (putK_intro hm1 ?_))
    rw [putE_comm n3]
    exact hz
  by_cases hi : like cf i = true
  · rw [semG_like hi] at hy ⊢
    exact (semG_det hi).mono (fun z hz => fin z loc h (fun _ _ _ => rfl) (fun _ _ => rfl) hz) hy
  · have hc := hc.resolve_left hi
    by_cases hr : reads j = true
    · obtain ⟨c1, c2⟩ := hc hr
      rw [semG_noloc c1] at hy ⊢
      exact semG_mono (fun z _ h' hz => fin z loc h' (fun _ _ _ => rfl) (fun _ ho => by rw [c2] at ho; cases ho) hz) hy
    · exact semG_mono (fun z loc' h' hz => fin z loc' h' (fun h => (hr h).elim) (fun h => (hr h).elim) hz) hy
end
end Am
