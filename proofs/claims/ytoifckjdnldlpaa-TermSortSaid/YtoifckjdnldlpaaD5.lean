/- Two operations of a drawn region, exchanged. -/
import Derived.Test.YtoifckjdnldlpaaD4
set_option linter.unusedVariables false
set_option linter.unusedSimpArgs false
namespace Am
open Go
/-- A guard's word, in a drawn region. -/
def grdS (y : TV) (want : Bool) (A B : Prop) : Prop := match y with
  | .bl b => match b, want with
    | true, true | false, false => A
    | _, _ => B
  | .und => B
  | _ => FF
noncomputable def semG (P : Program) (cf : Cfg) (fz : Fz) (ops : Array Oper) (o : Oper) (e : Operand → TV) (loc : Loc) (h : Heap) (k : TV → Loc → Heap → Prop) : Prop := match opTy cf o with
  | false => FF
  | true => match o.guard with
    | none => sem P cf fz o e loc h k
    | some (j, want) => match dstOf ops j with
      | none => FF
      | some t => grdS (e (.tmp t)) want (sem P cf fz o e loc h k) (k .und loc h)
section
variable {P : Program} {cf : Cfg} {fz : Fz} {env : Env} {loc : Loc} {h : Heap} {o : Oper} {e e' : Operand → TV} {ops : Array Oper} {k : K}
theorem one_semG (hd : fz.d = true) (hl : isL cf o = false) : awpOne P cf fz ops o k env loc h = semG P cf fz ops o (ev env) loc h fun y loc h => putK fz env o.dst y fun env => k env loc h := by
  unfold awpOne semG
  cases opTy cf o with
  | false => rfl
  | true =>
    simp only
    cases o.guard with
    | none => exact aop_sem hl
    | some g =>
      obtain ⟨j, want⟩ := g
      simp only
      cases dstOf ops j with
      | none => rfl
      | some t =>
        simp only
        unfold grdK grdS
        rw [show ev env (.tmp t) = nth env t from rfl]
        cases nth env t with
        | av c =>
          simp only [hd]
          cases may fz.t t with
          | false => rfl
          | true => rfl
        | bl b => cases b <;> cases want <;> simp only <;> first | rfl | exact aop_sem hl
        | _ => rfl
theorem grdS_det {α : Type} {y : TV} {want : Bool} {W V : (α → Prop) → Prop} (hw : Det W) (hv : Det V) : Det (fun k => grdS y want (W k) (V k)) := by
  unfold grdS
  cases y with
  | bl b => cases b <;> cases want <;> first | exact hw | exact hv
  | und => exact hv
  | _ => exact Det.ff
theorem brA_mono {c : AV} {A B A' B' : Prop} (ha : A → A') (hb : B → B') (hk : brA c A B) : brA c A' B' := by
  unfold brA at hk ⊢
  split at hk
  · exact ⟨fun e => ha (hk.1 e), fun e => hb (hk.2 e)⟩
  · exact hk
theorem grdS_mono {y : TV} {want : Bool} {A B A' B' : Prop} (ha : A → A') (hb : B → B') (hk : grdS y want A B) : grdS y want A' B' := by
  unfold grdS at hk ⊢
  cases y with
  | bl b => cases b <;> cases want <;> first | exact ha hk | exact hb hk
  | und => exact hb hk
  | _ => exact hk
theorem semG_like (hl : like cf o = true) {K : TV → Loc → Heap → Prop} : semG P cf fz ops o e loc h K = semG P cf fz ops o e loc h fun y _ _ => K y loc h := by
  unfold semG
  rw [sem_like hl]
theorem semG_det (hl : like cf o = true) : Det (fun k => semG P cf fz ops o e loc h fun y _ _ => k y) := by
  unfold semG
  cases opTy cf o with
  | false => exact Det.ff
  | true =>
    simp only
    cases o.guard with
    | none => exact sem_det hl
    | some g =>
      obtain ⟨j, want⟩ := g
      simp only
      cases dstOf ops j with
      | none => exact Det.ff
      | some t => exact grdS_det (sem_det hl) Det.pure
theorem semG_mono {K K' : TV → Loc → Heap → Prop} (hi : ∀ y loc h, K y loc h → K' y loc h) (hk : semG P cf fz ops o e loc h K) : semG P cf fz ops o e loc h K' := by
  unfold semG at hk ⊢
  cases ho : opTy cf o with
  | false => rw [ho] at hk; exact hk
  | true =>
    rw [ho] at hk
    simp only at hk ⊢
    cases hg : o.guard with
    | none => rw [hg] at hk; exact sem_mono hi hk
    | some g =>
      obtain ⟨j, want⟩ := g
      rw [hg] at hk
      simp only at hk ⊢
      cases ht : dstOf ops j with
      | none => rw [ht] at hk; exact hk
      | some t => rw [ht] at hk; exact grdS_mono (sem_mono hi) (hi _ _ _) hk
/-- What an operation looks at, its guard's word among it. -/
def looks (ops : Array Oper) (o : Oper) : List Operand := match o.guard with
  | none => opnds o
  | some (j, _) => match dstOf ops j with
    | none => opnds o
    | some t => .tmp t :: opnds o
theorem semG_congr {K : TV → Loc → Heap → Prop} (he : ∀ x, x ∈ looks ops o → e x = e' x) : semG P cf fz ops o e loc h K = semG P cf fz ops o e' loc h K := by
  unfold looks at he
  unfold semG
  cases opTy cf o with
  | false => rfl
  | true =>
    simp only
    cases hg : o.guard with
    | none => rw [hg] at he; exact sem_congr he
    | some g =>
      obtain ⟨j, want⟩ := g
      rw [hg] at he
      simp only at he ⊢
      cases ht : dstOf ops j with
      | none => rfl
      | some t =>
        rw [ht] at he
        simp only at he ⊢
        rw [he _ (by simp), sem_congr (fun x hx => he x (by simp [hx]))]
theorem semG_stable {loc2 : Loc} {h2 : Heap} {k : TV → Prop} (hl : like cf o = true) (hd : fz.d = true) (hloc : reads o = true → ∀ u, (lkp loc u).isSome → lkp loc2 u = lkp loc u)
    (hh : reads o = true → nmem cf.own (o.dst.getD 0) = true → h2 = h) (hk : semG P cf fz ops o e loc h fun y _ _ => k y) : semG P cf fz ops o e loc2 h2 fun y _ _ => k y := by
  unfold semG at hk ⊢
  cases ho : opTy cf o with
  | false => rw [ho] at hk; exact hk
  | true =>
    rw [ho] at hk
    simp only at hk ⊢
    cases hg : o.guard with
    | none => rw [hg] at hk; exact sem_stable hl hd hloc hh hk
    | some g =>
      obtain ⟨j, want⟩ := g
      rw [hg] at hk
      simp only at hk ⊢
      cases ht : dstOf ops j with
      | none => rw [ht] at hk; exact hk
      | some t => rw [ht] at hk; exact grdS_mono (sem_stable hl hd hloc hh) id hk
end
end Am
