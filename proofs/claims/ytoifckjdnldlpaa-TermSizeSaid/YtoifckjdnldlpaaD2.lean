/- What pure operations tell is one value; every operation is monotone. -/
import Derived.Test.YtoifckjdnldlpaaD1
set_option linter.unusedVariables false
set_option linter.unusedSimpArgs false
namespace Am
open Go
section
variable {P : Program} {cf : Cfg} {fz : Fz} {env : Env} {loc : Loc} {h : Heap} {o : Oper}
/-- A word that hands one value on, whatever comes behind. -/
def Det {α : Type} (W : (α → Prop) → Prop) : Prop := ∀ k, W k → ∃ v, k v ∧ ∀ k2 : α → Prop, k2 v → W k2
theorem Det.pure {α : Type} {v : α} : Det (fun k : α → Prop => k v) := fun k h => ⟨v, h, fun _ h => h⟩
theorem Det.ff {α : Type} : Det (fun _ : α → Prop => FF) := fun k h => (show False from h).elim
theorem Det.f {α : Type} : Det (fun _ : α → Prop => False) := fun k h => h.elim
theorem Det.bind {α γ : Type} {W : (α → Prop) → Prop} {V : α → (γ → Prop) → Prop} (hw : Det W) (hv : ∀ v, Det (V v)) : Det (fun k => W fun v => V v k) := fun k h => by
  obtain ⟨v, h1, h2⟩ := hw _ h
  obtain ⟨y, h3, h4⟩ := hv v k h1
  exact ⟨y, h3, fun k2 hk => h2 _ (h4 k2 hk)⟩
theorem Det.mono {α : Type} {W : (α → Prop) → Prop} (hw : Det W) {k k' : α → Prop} (hi : ∀ v, k v → k' v) (h : W k) : W k' := by
  obtain ⟨v, h1, h2⟩ := hw _ h
  exact h2 _ (hi v h1)
theorem Det.and {α : Type} {p : Prop} {W : (α → Prop) → Prop} (hw : Det W) : Det (fun k => p ∧ W k) := fun k h => by
  obtain ⟨v, h1, h2⟩ := hw _ h.2
  exact ⟨v, h1, fun k2 hk => ⟨h.1, h2 _ hk⟩⟩
theorem asAV_det {x : TV} : Det (asAV x) := by
  cases x <;> first | exact Det.pure | exact Det.ff
theorem asAVs_det : ∀ {xs : List TV}, Det (asAVs xs)
  | [] => Det.pure
  | x :: xs => show Det (fun k => asAV x fun v => asAVs xs fun vs => k (v :: vs)) from Det.bind asAV_det fun v => Det.bind asAVs_det fun vs => Det.pure
theorem brA_det {α : Type} {c : AV} {W V : (α → Prop) → Prop} (hw : Det W) (hv : Det V) : Det (fun k => brA c (W k) (V k)) := by
  intro k h
  unfold brA at h
  split at h
  · rename_i b
    cases b
    · obtain ⟨v, h1, h2⟩ := hv _ (h.2 rfl)
      exact ⟨v, h1, fun k2 hk => ⟨fun e => (by cases e), fun _ => h2 _ hk⟩⟩
    · obtain ⟨v, h1, h2⟩ := hw _ (h.1 rfl)
      exact ⟨v, h1, fun k2 hk => ⟨fun _ => h2 _ hk, fun e => (by cases e)⟩⟩
  · exact h.elim
theorem takeK_det {α : Type} : ∀ {l : List α} {n : Nat}, Det (takeK l n)
  | l, 0 => by cases l <;> exact Det.pure
  | x :: xs, n + 1 => show Det (fun k => takeK xs n fun ys => k (x :: ys)) from Det.bind (takeK_det (l := xs) (n := n)) fun ys => Det.pure
  | [], n + 1 => Det.ff
theorem exactK_det {α : Type} : ∀ {l : List α} {n : Nat}, Det (exactK l n)
  | [], 0 => Det.pure
  | x :: xs, n + 1 => show Det (fun k => exactK xs n fun ys => k (x :: ys)) from Det.bind (exactK_det (l := xs) (n := n)) fun ys => Det.pure
  | [], n + 1 => Det.ff
  | _ :: _, 0 => Det.ff
theorem aggA_det {sz : Nat} {v : AV} : Det (aggA sz v) := by
  cases v <;> first | exact Det.and Det.pure | exact Det.f
theorem oneA_det {α : Type} {x : AV} {W : (α → Prop) → Prop} (hw : Det W) : Det (fun k => oneA x (W k)) := by
  cases x <;> first | exact hw | exact Det.f
theorem nilA_det {α : Type} {x : AV} {W : (α → Prop) → Prop} (hw : Det W) : Det (fun k => nilA x (W k)) := by
  cases x <;> first | exact hw | exact Det.f
theorem fixA_det {α : Type} {x : AV} {W : (α → Prop) → Prop} (hw : Det W) : Det (fun k => fixA x (W k)) := by
  cases x <;> first | exact hw | exact Det.f
theorem drK_det {α : Type} {own : List Nat} {dst : Option Tmp} {x : AV} {W : (α → Prop) → Prop} (hw : Det W) : Det (fun k => drK fz own dst x (W k)) := by
  unfold drK
  cases fz.d
  · exact hw
  · cases nmem own (dst.getD 0)
    · exact fixA_det hw
    · exact hw
theorem cellsK_det {ti : TyI} {x : TV} : Det (cellsK ti x) := by
  unfold cellsK
  cases ti.agg
  · cases x <;> first | exact Det.pure | exact Det.ff | exact oneA_det Det.pure
  · cases x <;> first | exact exactK_det | exact Det.ff | exact Det.bind aggA_det fun cs => Det.pure
theorem cellsKs_det {ti : TyI} : ∀ {xs : List TV}, Det (cellsKs ti xs)
  | [] => Det.pure
  | x :: xs => show Det (fun k => cellsK ti x fun c => cellsKs ti xs fun cs => k (c :: cs)) from Det.bind cellsK_det fun c => Det.bind cellsKs_det fun cs => Det.pure
theorem spliceK_det {cs : List AV} {off : Nat} {xs : List AV} : Det (spliceK cs off xs) := by
  have : spliceK cs off xs = fun k => k (splice cs off xs) := funext fun k => spliceK_eq _ _ _ _
  rw [this]; exact Det.pure
theorem buildK_det {e : Operand → TV} {ti : TyI} : ∀ {l : List (Nat × Operand)} {cs : List AV}, Det (buildK cf e ti l cs)
  | [], cs => Det.pure
  | (i, x) :: rest, cs => show Det (fun k => cellsK (cf.ty (ti.flds.getD i (0, 0)).2) (e x) fun ds => spliceK cs (ti.flds.getD i (0, 0)).1 ds fun cs => buildK cf e ti rest cs k) from Det.bind cellsK_det fun ds => Det.bind spliceK_det fun cs => buildK_det
theorem optK_det {e : Operand → TV} : ∀ {x : Option Operand}, Det (optK e x)
  | none => Det.pure
  | some x => show Det (fun k => asAV (e x) fun v => k (some v)) from Det.bind asAV_det fun v => Det.pure
theorem loadV_det {p : AV} : Det (loadV p h) := by
  cases p <;> first | exact Det.f | exact Det.and Det.pure | skip
  rename_i id ix off
  unfold loadV
  simp only
  cases h id with
  | none => exact Det.f
  | some n => cases n <;> first | exact Det.f | exact Det.and (Det.and Det.pure)
theorem loadG_det {sz : Nat} {p : AV} : Det (loadG sz p h) := by
  cases p <;> first | exact Det.f | exact Det.and Det.pure | skip
  rename_i id ix off
  unfold loadG
  simp only
  cases h id with
  | none => exact Det.f
  | some n => cases n <;> first | exact Det.f | exact Det.and (Det.and Det.pure)
theorem fldA_det {off : Nat} {p : AV} : Det (fldA off p) := by
  cases p <;> first | exact Det.f | exact Det.pure
theorem idxA_det {es : Nat} {x i : AV} : Det (idxA es x i h) := by
  unfold idxA
  split
  · split
    · exact Det.and (Det.and (Det.and Det.pure))
    · split
      · exact Det.and (Det.and (Det.and (Det.and Det.pure)))
      · exact Det.f
    · exact Det.f
  · exact Det.f
theorem strA_det {x i : AV} : Det (strA x i) := by
  unfold strA
  split
  · exact Det.and (Det.and Det.pure)
  · exact Det.f
theorem eqbA_det {n : Bool} {x y : AV} : Det (eqbA n x y) := by
  unfold eqbA
  split
  · exact Det.pure
  · exact Det.f
theorem binA_det {op : BinOp} {x y : AV} : Det (binA op x y) := by
  unfold binA
  split
  · exact Det.pure
  · exact Det.f
theorem notA_det {x : AV} : Det (notA x) := by
  unfold notA
  split
  · exact Det.pure
  · exact Det.f
theorem tupA_det {x : AV} {i : Nat} : Det (tupA x i) := by
  unfold tupA
  split
  · exact Det.and Det.pure
  · exact Det.f
theorem maxA_det {x y : AV} : Det (maxA x y) := by
  unfold maxA
  split
  · exact Det.pure
  · exact Det.f
theorem minA_det {x y : AV} : Det (minA x y) := by
  unfold minA
  split
  · exact Det.pure
  · exact Det.f
theorem lenA_det {x : AV} : Det (lenA x) := by
  unfold lenA
  split <;> first | exact Det.pure | exact Det.f
theorem lenS_det {x : AV} : Det (lenS x) := by
  unfold lenS
  split <;> first | exact Det.pure | exact Det.f
theorem lenM_det {x : AV} : Det (lenM x h) := by
  unfold lenM
  split
  · split <;> first | exact Det.pure | exact Det.f
  · exact Det.f
theorem sliceA_det {es : Nat} {x : AV} {lo hi : Option AV} : Det (sliceA es x lo hi) := by
  unfold sliceA
  split
  · refine Det.and (Det.and ?_)
    split <;> first | exact Det.and (Det.and Det.pure) | exact Det.and (Det.and (Det.and Det.pure)) | exact Det.f
  · refine Det.and ?_
    split <;> first | exact Det.and (Det.and Det.pure) | exact Det.f
  · split <;> first | exact Det.and (Det.and Det.pure) | exact Det.f
  · refine Det.and ?_
    split <;> first | exact Det.and (Det.and Det.pure) | exact Det.and (Det.and (Det.and Det.pure)) | exact Det.f
  · exact Det.f
theorem eqA_det {ks : List TK} {n : Bool} {x y : AV} : Det (eqA ks n x y) := by
  unfold eqA
  split
  · refine Det.and (Det.and ?_)
    split
    · exact Det.pure
    · exact Det.f
  · exact Det.f
theorem sl3A_det {es : Nat} {x hi mx : AV} : Det (sl3A es x hi mx) := by
  unfold sl3A
  split
  · exact Det.and (Det.and (Det.and (Det.and (Det.and Det.pure))))
  · exact Det.f
theorem convA_det {kd : IntKind} {x : AV} : Det (convA kd x) := by
  unfold convA
  split
  · exact Det.pure
  · exact Det.f
end
end Am
