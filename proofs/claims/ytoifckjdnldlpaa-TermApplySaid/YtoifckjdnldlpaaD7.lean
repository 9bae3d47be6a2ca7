/- A new local variable and another operation, exchanged. -/
import Derived.Test.YtoifckjdnldlpaaD6
set_option linter.unusedVariables false
set_option linter.unusedSimpArgs false
namespace Am
open Go
section
variable {P : Program} {cf : Cfg} {fz : Fz} {env : Env} {loc : Loc} {h : Heap} {o : Oper} {e e' : Operand → TV} {ops : Array Oper} {k : K}
theorem fixA_mono {x : AV} {A B : Prop} (hi : A → B) (hk : fixA x A) : fixA x B := by
  cases x <;> first | exact hk.elim | exact hi hk
theorem sem_ext {loc2 : Loc} {k : TV → Heap → Prop} (hs : isStore o = false) (he : ∀ x, x ∈ opnds o → ∀ u off, e x = .loc u off → lkp loc2 u = lkp loc u) :
    sem P cf fz o e loc h (fun y _ h => k y h) = sem P cf fz o e loc2 h fun y _ h => k y h := by
  unfold isStore at hs
  unfold opnds at he
  unfold sem
  cases hop : o.op with
  | load t x =>
    rw [hop] at he
    simp only at he ⊢
    cases hx : e x with
    | loc u off => simp only; rw [he x (by simp) u off hx]
    | _ => rfl
  | unOp op t x => cases op <;> rfl
  | makeFunc f first caps => cases f <;> rfl
  | call c =>
    obtain ⟨callee, args, ts⟩ := c
    cases callee with
    | value x => cases x <;> rfl
    | builtin bi => cases bi <;> rfl
    | invoke r n => rfl
  | _ => (rw [hop] at hs) <;> first | rfl | (cases hs; done)
/-- No result points to a variable that no operand points to. -/
theorem sem_nol {d : Nat} {K : TV → Loc → Heap → Prop} (he : ∀ x, x ∈ opnds o → ∀ off, e x ≠ .loc d off) (hk : sem P cf fz o e loc h K) :
    sem P cf fz o e loc h fun y l h => (∀ off, y ≠ .loc d off) ∧ K y l h := by
  have av : ∀ {v : AV} {l : Loc} {h : Heap}, K (.av v) l h → (∀ off, TV.av v ≠ .loc d off) ∧ K (.av v) l h := fun hk => ⟨fun off => by simp, hk⟩
  have ag : ∀ {v : List AV} {l : Loc} {h : Heap}, K (.ag v) l h → (∀ off, TV.ag v ≠ .loc d off) ∧ K (.ag v) l h := fun hk => ⟨fun off => by simp, hk⟩
  have de : ∀ {l : Loc} {h : Heap}, K .dead l h → (∀ off, TV.dead ≠ .loc d off) ∧ K .dead l h := fun hk => ⟨fun off => by simp, hk⟩
  unfold opnds at he
  unfold sem at hk ⊢
  cases hop : o.op with
  | move x => rw [hop] at hk he; exact ⟨he x (by simp), hk⟩
  | assign x => rw [hop] at hk he; exact ⟨he x (by simp), hk⟩
  | pick c x y =>
    rw [hop] at hk he
    simp only at hk he ⊢
    split at hk
    · exact ⟨he x (by simp), hk⟩
    · exact ⟨he y (by simp), hk⟩
    · exact brA_mono (fun hk => ⟨he x (by simp), hk⟩) (fun hk => ⟨he y (by simp), hk⟩) hk
    · exact hk
  | box t x =>
    rw [hop] at hk
    refine cellsK_det.mono (fun cs hk => ?_) hk
    split at hk
    · exact newA_mono (fun v h => av) hk
    · exact hk
  | alloc t =>
    rw [hop] at hk
    simp only at hk ⊢
    split at hk
    · exact newA_mono (fun v h => av) hk
    · exact hk
  | load t x =>
    rw [hop] at hk
    simp only at hk ⊢
    split at hk
    · split at hk
      · split at hk
        · exact takeK_det.mono (fun v => ag) hk
        · exact takeK_det.mono (fun v => av) hk
      · exact hk
    · unfold drK at hk ⊢
      have go : ∀ {p : AV}, (match (cf.ty t).agg with
          | true => loadG (cf.ty t).sz p h fun cs => K (.ag (gets cs 0 (cf.ty t).sz)) loc h
          | false => loadV p h fun v => K (.av v) loc h) → (match (cf.ty t).agg with
          | true => loadG (cf.ty t).sz p h fun cs => (∀ off, TV.ag (gets cs 0 (cf.ty t).sz) ≠ .loc d off) ∧ K (.ag (gets cs 0 (cf.ty t).sz)) loc h
          | false => loadV p h fun v => (∀ off, TV.av v ≠ .loc d off) ∧ K (.av v) loc h) := by
        intro p hk
        split at hk
        · exact loadG_det.mono (fun v => ag) hk
        · exact loadV_det.mono (fun v => av) hk
      split at hk
      · exact go hk
      · split at hk
        · exact go hk
        · exact fixA_mono go hk
    · exact hk
  | store t x v =>
    rw [hop] at hk
    refine cellsK_det.mono (fun cs hk => ?_) hk
    split at hk
    · split at hk
      · exact hk
      · split at hk
        · refine takeK_det.mono (fun _ hk => ?_) hk
          rw [spliceK_eq, lsetK_eq] at hk ⊢
          exact de hk
        · exact hk
    · exact storeG_mono (fun h => de) hk
    · exact hk
  | nilCheck x =>
    rw [hop] at hk he
    simp only at hk he ⊢
    split at hk
    · rename_i u off hx
      exact ⟨fun off' hy => he x (by simp) off (by rw [hx]; cases hy; rfl), hk⟩
    · exact (nilA_det (W := fun k : Unit → Prop => k ()) Det.pure).mono (k := fun _ => _) (k' := fun _ => _) (fun _ => av) hk
    · exact hk
  | fieldAddr t x f =>
    rw [hop] at hk he
    simp only at hk he ⊢
    split at hk
    · rename_i u off hx
      exact ⟨fun off' hy => he x (by simp) off (by rw [hx]; cases hy; rfl), hk⟩
    · exact fldA_det.mono (fun v => av) hk
    · exact hk
  | indexAddr t x i =>
    rw [hop] at hk
    refine asAV_det.mono (fun x hk => asAV_det.mono (fun i hk => ?_) hk) hk
    exact (drK_det (W := fun k : AV → Prop => idxA (cf.ty (cf.ty t).elem).sz x i h k) idxA_det).mono (fun v => av) hk
  | index t x i => rw [hop] at hk; exact asAV_det.mono (fun x hk => asAV_det.mono (fun i hk => strA_det.mono (fun v => av) hk) hk) hk
  | binOp op t x y u =>
    rw [hop] at hk
    refine asAV_det.mono (fun x hk => asAV_det.mono (fun y hk => ?_) hk) hk
    split at hk
    · exact eqA_det.mono (fun v => av) hk
    · exact eqA_det.mono (fun v => av) hk
    · exact hk
    · split at hk
      · exact eqbA_det.mono (fun v => av) hk
      · exact eqbA_det.mono (fun v => av) hk
      · exact hk
      · exact binA_det.mono (fun v => av) hk
  | unOp op t x => rw [hop] at hk; cases op <;> first | exact hk | exact asAV_det.mono (fun x hk => notA_det.mono (fun v => av) hk) hk
  | extract x i => rw [hop] at hk; exact asAV_det.mono (fun x hk => tupA_det.mono (fun v => av) hk) hk
  | build t ps => rw [hop] at hk; exact buildK_det.mono (fun x hk => takeK_det.mono (fun v => ag) hk) hk
  | buildSlice t n ps =>
    rw [hop] at hk
    simp only at hk ⊢
    split at hk
    · cases n with
      | zero => exact av hk
      | succ n => exact cellsKs_det.mono (fun v => av) hk
    · exact hk
  | makeSlice t n c => rw [hop] at hk; exact asAV_det.mono (fun n hk => asAV_det.mono (fun c hk => mkA_mono (fun v h => av) hk) hk) hk
  | slice t x lo hi mx =>
    rw [hop] at hk
    cases mx with
    | some m =>
      simp only at hk ⊢
      split at hk
      · exact asAV_det.mono (fun x hk => asAV_det.mono (fun hi hk => asAV_det.mono (fun mx hk => sl3A_det.mono (fun v => av) hk) hk) hk) hk
      · exact hk
    | none => exact asAV_det.mono (fun x hk => optK_det.mono (fun l hk => optK_det.mono (fun u hk => sliceA_det.mono (fun v => av) hk) hk) hk) hk
  | convert s t x =>
    rw [hop] at hk
    simp only at hk ⊢
    split at hk
    · exact asAV_det.mono (fun x hk => convA_det.mono (fun v => av) hk) hk
    · exact hk
  | makeMap t r =>
    rw [hop] at hk
    cases r <;> first | exact newM_mono (fun v h => av) hk | exact hk
  | lookup t m x ok =>
    rw [hop] at hk
    simp only at hk ⊢
    split at hk
    · exact asAV_det.mono (fun m hk => cellsK_det.mono (fun cs hk => lookA_mono (fun v => av) hk) hk) hk
    · exact hk
  | mapUpdate t m x v =>
    rw [hop] at hk
    simp only at hk ⊢
    split at hk
    · exact asAV_det.mono (fun m hk => cellsK_det.mono (fun cs hk => cellsK_det.mono (fun vs hk => updA_mono (fun h => de) hk) hk) hk) hk
    · exact hk
  | mapEntry t m x =>
    rw [hop] at hk
    simp only at hk ⊢
    split at hk
    · exact asAV_det.mono (fun m hk => cellsK_det.mono (fun cs hk => entA_mono (fun v h => av) hk) hk) hk
    · exact hk
  | entryStore t m i v =>
    rw [hop] at hk
    simp only at hk ⊢
    split at hk
    · exact asAV_det.mono (fun m hk => asAV_det.mono (fun i hk => cellsK_det.mono (fun vs hk => entS_mono (fun h => de) hk) hk) hk) hk
    · exact hk
  | range t m =>
    rw [hop] at hk
    simp only at hk ⊢
    split at hk
    · exact asAV_det.mono (fun m hk => rangeA_mono (fun v h => av) hk) hk
    · exact hk
  | next it str =>
    rw [hop] at hk
    cases str <;> first | exact asAV_det.mono (fun m hk => nextA_mono (fun v h => av) hk) hk | exact hk
  | entry it =>
    rw [hop] at hk
    exact asAV_det.mono (fun m hk => entryA_mono (fun v => av) hk) hk
  | makeFunc f first caps =>
    rw [hop] at hk
    cases f with
    | func f =>
      simp only at hk ⊢
      split at hk
      · exact asAVs_det.mono (fun v => av) hk
      · exact hk
    | _ => exact hk
  | call c =>
    obtain ⟨callee, args, ts⟩ := c
    rw [hop] at hk
    cases callee with
    | value x =>
      cases x with
      | func f => exact asAVs_det.mono (fun vs hk => callS_mono (fun v h => av) hk) hk
      | tmp t => exact asAV_det.mono (fun f hk => asAVs_det.mono (fun vs hk => callV_mono (fun v h => av) hk) hk) hk
      | _ => exact hk
    | invoke r n => exact hk
    | builtin bi =>
      cases bi <;> first | exact hk | skip
      · simp only at hk ⊢
        split at hk
        · split at hk
          · exact asAV_det.mono (fun n hk => asAV_det.mono (fun c hk => appA_mono (fun v h => av) hk) hk) hk
          · exact hk
        · exact hk
      · simp only at hk ⊢
        split at hk
        · split at hk
          · exact asAV_det.mono (fun x hk => lenS_det.mono (fun v => av) hk) hk
          · exact asAV_det.mono (fun x hk => lenM_det.mono (fun v => av) hk) hk
          · exact asAV_det.mono (fun x hk => lenA_det.mono (fun v => av) hk) hk
          · exact hk
        · exact hk
      · simp only at hk ⊢
        split at hk
        · exact asAV_det.mono (fun x hk => asAV_det.mono (fun y hk => maxA_det.mono (fun v => av) hk) hk) hk
        · exact hk
      · simp only at hk ⊢
        split at hk
        · exact asAV_det.mono (fun x hk => asAV_det.mono (fun y hk => minA_det.mono (fun v => av) hk) hk) hk
        · exact hk
  | _ => rw [hop] at hk; exact hk
end
end Am
