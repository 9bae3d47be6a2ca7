/- Pure operations: one value. All operations: monotone. -/
import Derived.Test.YtoifckjdnldlpaaD2
set_option linter.unusedVariables false
set_option linter.unusedSimpArgs false
namespace Am
open Go
section
variable {P : Program} {cf : Cfg} {fz : Fz} {env : Env} {loc : Loc} {h : Heap} {o : Oper} {e : Operand → TV}
/-- Operations that turn nothing but their own temporary. -/
def like (cf : Cfg) (o : Oper) : Bool := match o.op with
  | .move _ | .assign _ | .pick _ _ _ | .fieldAddr _ _ _ | .nilCheck _ | .index _ _ _ | .binOp _ _ _ _ _ | .unOp _ _ _ | .extract _ _ | .build _ _ | .buildSlice _ _ _ | .slice _ _ _ _ _ | .makeFunc _ _ _ | .convert _ _ _ => true
  | .load _ _ | .indexAddr _ _ _ => true
  | .call { callee := .builtin .len, argTypes, .. } => match argTypes.toList with
    | [t] => match (cf.ty t).kd with
      | .map _ _ => false
      | _ => true
    | _ => true
  | .call { callee := .builtin .max, .. } | .call { callee := .builtin .min, .. } => true
  | _ => false
/-- .. and look at nothing but their operands. -/
def reads (o : Oper) : Bool := match o.op with
  | .load _ _ | .indexAddr _ _ _ => true
  | _ => false
theorem sem_like (hl : like cf o = true) {K : TV → Loc → Heap → Prop} : sem P cf fz o e loc h K = sem P cf fz o e loc h fun y _ _ => K y loc h := by
  unfold like at hl
  unfold sem
  cases hop : o.op with
  | unOp op t x => cases op <;> rfl
  | makeFunc f first caps => cases f <;> rfl
  | call c =>
    obtain ⟨callee, args, ts⟩ := c
    rw [hop] at hl
    cases callee with
    | value x => cases hl
    | builtin bi => cases bi <;> first | (cases hl; done) | rfl
    | invoke r n => cases hl
  | _ => (rw [hop] at hl) <;> first | rfl | (cases hl; done)
theorem sem_det (hl : like cf o = true) : Det (fun k => sem P cf fz o e loc h fun y _ _ => k y) := by
  unfold like at hl
  unfold sem
  cases hop : o.op with
  | move x => exact Det.pure
  | assign x => exact Det.pure
  | pick c a b =>
    simp only
    cases e c with
    | bl b => cases b <;> exact Det.pure
    | av c => exact brA_det Det.pure Det.pure
    | _ => exact Det.ff
  | fieldAddr t x f =>
    simp only
    cases e x with
    | loc u off => exact Det.pure
    | av p => exact Det.bind fldA_det fun p => Det.pure
    | _ => exact Det.ff
  | nilCheck x =>
    simp only
    cases e x with
    | loc u off => exact Det.pure
    | av p => exact nilA_det Det.pure
    | _ => exact Det.ff
  | index t x i => exact Det.bind asAV_det fun x => Det.bind asAV_det fun i => Det.bind strA_det fun v => Det.pure
  | binOp op t x y u =>
    refine Det.bind asAV_det fun x => Det.bind asAV_det fun y => ?_
    cases (cf.ty t).agg with
    | true => cases op <;> first | exact Det.ff | exact Det.bind eqA_det fun v => Det.pure
    | false =>
      simp only
      cases (cf.ty t).kd with
      | bool => cases op <;> first | exact Det.ff | exact Det.bind eqbA_det fun v => Det.pure
      | _ => exact Det.bind binA_det fun v => Det.pure
  | unOp op t x => cases op <;> first | exact Det.ff | exact Det.bind asAV_det fun x => Det.bind notA_det fun v => Det.pure
  | extract x i => exact Det.bind asAV_det fun x => Det.bind tupA_det fun v => Det.pure
  | build t parts => exact Det.bind buildK_det fun cs => Det.bind takeK_det fun cs => Det.pure
  | buildSlice t n parts =>
    simp only
    cases Nat.beq n parts.size with
    | false => exact Det.ff
    | true => cases n <;> first | exact Det.pure | exact Det.bind cellsKs_det fun v => Det.pure
  | slice t x lo hi mx =>
    cases mx with
    | some m =>
      simp only
      split
      · exact Det.bind asAV_det fun x => Det.bind asAV_det fun hi => Det.bind asAV_det fun mx => Det.bind sl3A_det fun v => Det.pure
      · exact Det.ff
    | none => exact Det.bind asAV_det fun x => Det.bind optK_det fun lo => Det.bind optK_det fun hi => Det.bind sliceA_det fun v => Det.pure
  | convert s t x =>
    simp only
    split
    · exact Det.bind asAV_det fun x => Det.bind convA_det fun v => Det.pure
    · exact Det.ff
  | makeFunc f first caps =>
    cases f with
    | func f =>
      simp only
      cases first.size with
      | zero => exact Det.bind asAVs_det fun v => Det.pure
      | succ n => exact Det.ff
    | _ => exact Det.ff
  | load t x =>
    simp only
    cases e x with
    | loc u off =>
      simp only
      cases lkp loc u with
      | none => exact Det.ff
      | some cs => simp only; cases (cf.ty t).agg <;> exact Det.bind takeK_det fun cs => Det.pure
    | av p =>
      refine drK_det ?_
      cases (cf.ty t).agg
      · exact Det.bind loadV_det fun v => Det.pure
      · exact Det.bind loadG_det fun v => Det.pure
    | _ => exact Det.ff
  | indexAddr t x i => exact Det.bind asAV_det fun x => Det.bind asAV_det fun i => drK_det (Det.bind idxA_det fun p => Det.pure)
  | call c =>
    obtain ⟨callee, args, ts⟩ := c
    rw [hop] at hl
    cases callee with
    | value x => cases hl
    | invoke r n => cases hl
    | builtin bi =>
      cases bi <;> first | (cases hl; done) | skip
      · simp only
        split
        · split
          · exact Det.bind asAV_det fun x => Det.bind lenS_det fun v => Det.pure
          · exact Det.bind asAV_det fun x => Det.bind lenM_det fun v => Det.pure
          · exact Det.bind asAV_det fun x => Det.bind lenA_det fun v => Det.pure
          · exact Det.ff
        · exact Det.ff
      · simp only
        split
        · exact Det.bind asAV_det fun x => Det.bind asAV_det fun y => Det.bind maxA_det fun v => Det.pure
        · exact Det.ff
      · simp only
        split
        · exact Det.bind asAV_det fun x => Det.bind asAV_det fun y => Det.bind minA_det fun v => Det.pure
        · exact Det.ff
  | _ => (rw [hop] at hl) <;> cases hl
theorem newA_mono {sz : Nat} {cs : List AV} {k k' : AV → Heap → Prop} (hi : ∀ v h, k v h → k' v h) (hk : newA sz cs h k) : newA sz cs h k' := fun id hid => hi _ _ (hk id hid)
theorem storeG_mono {p : AV} {cs : List AV} {k k' : Heap → Prop} (hi : ∀ h, k h → k' h) (hk : storeG p cs h k) : storeG p cs h k' := by
  unfold storeG at hk ⊢
  split at hk
  · split at hk
    · exact ⟨hk.1, hk.2.1, hi _ hk.2.2⟩
    · exact hk.elim
  · exact hk.elim
theorem mkA_mono {sz bytes : Nat} {zero : List AV} {n c : AV} {k k' : AV → Heap → Prop} (hi : ∀ v h, k v h → k' v h) (hk : mkA sz bytes zero n c h k) : mkA sz bytes zero n c h k' := by
  unfold mkA at hk ⊢
  split at hk
  · exact ⟨hk.1, hk.2.1, hk.2.2.1, fun id hid => hi _ _ (hk.2.2.2 id hid)⟩
  · exact hk.elim
theorem srcA_mono {sz : Nat} {y : AV} {k k' : List (List AV) → Prop} (hi : ∀ v, k v → k' v) (hk : srcA sz y h k) : srcA sz y h k' := by
  unfold srcA at hk ⊢
  split at hk
  · exact ⟨hk.1, hi _ hk.2⟩
  · split at hk
    · exact ⟨hk.1, hk.2.1, hi _ hk.2.2⟩
    · exact hk.elim
  · exact hi _ hk
  · exact hk.elim
theorem appA_mono {sz bytes : Nat} {x y : AV} {k k' : AV → Heap → Prop} (hi : ∀ v h, k v h → k' v h) (hk : appA sz bytes x y h k) : appA sz bytes x y h k' := by
  refine srcA_mono (fun ys hy => ?_) hk
  split at hy
  · exact ⟨hy.1, fun e => hi _ _ (hy.2.1 e), fun e id hid => hi _ _ (hy.2.2 e id hid)⟩
  · split at hy
    · exact ⟨hy.1, hy.2.1, hy.2.2.1, fun id hid => hi _ _ (hy.2.2.2 id hid)⟩
    · exact hy.elim
  · exact hy.elim
theorem newM_mono {k k' : AV → Heap → Prop} (hi : ∀ v h, k v h → k' v h) (hk : newM h k) : newM h k' := fun id hid => hi _ _ (hk id hid)
theorem mapA_mono {ks : List TK} {m key : AV} {k k' : Nat → List (AV × AV) → Option Nat → Prop} (hi : ∀ i e r, k i e r → k' i e r) (hk : mapA ks m key h k) : mapA ks m key h k' := by
  unfold mapA at hk ⊢
  split at hk
  · split at hk
    · split at hk
      · exact hi _ _ _ hk
      · exact hk
    · exact hk
  · exact hk
theorem lookA_mono {ks : List TK} {ok : Bool} {z m key : AV} {k k' : AV → Prop} (hi : ∀ v, k v → k' v) (hk : lookA ks ok z m key h k) : lookA ks ok z m key h k' := mapA_mono (fun i e r hk => by cases r <;> exact hi _ hk) hk
theorem updA_mono {ks : List TK} {m key v : AV} {k k' : Heap → Prop} (hi : ∀ h, k h → k' h) (hk : updA ks m key v h k) : updA ks m key v h k' := mapA_mono (fun i e r hk => by cases r <;> exact hi _ hk) hk
theorem entA_mono {ks : List TK} {z m key : AV} {k k' : AV → Heap → Prop} (hi : ∀ v h, k v h → k' v h) (hk : entA ks z m key h k) : entA ks z m key h k' := mapA_mono (fun i e r hk => by cases r <;> exact hi _ _ hk) hk
theorem entS_mono {m i v : AV} {k k' : Heap → Prop} (hi : ∀ h, k h → k' h) (hk : entS m i v h k) : entS m i v h k' := by
  unfold entS at hk ⊢
  split at hk
  · split at hk
    · exact ⟨hk.1, hk.2.1, hi _ hk.2.2⟩
    · exact hk
  · exact hk
theorem rangeA_mono {m : AV} {k k' : AV → Heap → Prop} (hi : ∀ v h, k v h → k' v h) (hk : rangeA m h k) : rangeA m h k' := by
  unfold rangeA at hk ⊢
  split at hk
  · split at hk
    · exact fun it hit => hi _ _ (hk it hit)
    · exact hk
  · exact hk
theorem iterA_mono {it : AV} {k k' : Nat → Nat → Nat → List (AV × AV) → List Nat → Option Nat → Prop} (hi : ∀ a b c d e f, k a b c d e f → k' a b c d e f) (hk : iterA it h k) : iterA it h k' := by
  unfold iterA at hk ⊢
  split at hk
  · split at hk
    · split at hk
      · exact ⟨hk.1, hi _ _ _ _ _ _ hk.2⟩
      · exact hk
    · exact hk
  · exact hk
theorem nextA_mono {it : AV} {k k' : AV → Heap → Prop} (hi : ∀ v h, k v h → k' v h) (hk : nextA it h k) : nextA it h k' := iterA_mono (fun a b c d e f hk => ⟨fun x => hi _ _ (hk.1 x), fun i hi' => hi _ _ (hk.2 i hi')⟩) hk
theorem entryA_mono {it : AV} {k k' : AV → Prop} (hi : ∀ v, k v → k' v) (hk : entryA it h k) : entryA it h k' := iterA_mono (fun a b c d e f hk => by cases f <;> first | exact hi _ hk | exact hk) hk
theorem ACalls.mono {f : FuncId} {args : List AV} {k k' : AV → Heap → Prop} (hi : ∀ v h, k v h → k' v h) (hk : ACalls P f args h k) : ACalls P f args h k' :=
  ⟨hk.1, fun w C vs H hs hr => (hk.2 w C vs H hs hr).mono fun e w' ⟨v, C', h', r, h1, h2, h3, h4⟩ => ⟨v, C', h', r, h1, h2, h3, hi _ _ h4⟩⟩
theorem callS_mono {f : FuncId} {args : List AV} {k k' : AV → Heap → Prop} (hi : ∀ v h, k v h → k' v h) (hk : callS P f args h k) : callS P f args h k' := by
  obtain ⟨σ, h', h1, h2, h3, h4⟩ := hk
  exact ⟨σ, h', h1, h2, h3, h4.mono hi⟩
theorem callV_mono {f : AV} {args : List AV} {k k' : AV → Heap → Prop} (hi : ∀ v h, k v h → k' v h) (hk : callV P f args h k) : callV P f args h k' := by
  unfold callV at hk ⊢
  split at hk
  · exact callS_mono hi hk
  · exact hk.elim
theorem sem_mono {K K' : TV → Loc → Heap → Prop} (hi : ∀ y loc h, K y loc h → K' y loc h) (hk : sem P cf fz o e loc h K) : sem P cf fz o e loc h K' := by
  by_cases hl : like cf o = true
  · rw [sem_like hl] at hk ⊢
    exact (sem_det hl).mono (fun v => hi v loc h) hk
  · unfold like at hl
    unfold sem at hk ⊢
    cases hop : o.op with
    | box t x =>
      rw [hop] at hk
      refine cellsK_det.mono (fun cs hk => ?_) hk
      split at hk
      · exact newA_mono (fun v h => hi _ _ _) hk
      · exact hk
    | alloc t =>
      rw [hop] at hk
      simp only at hk ⊢
      split at hk
      · exact newA_mono (fun v h => hi _ _ _) hk
      · exact hk
    | store t x v =>
      rw [hop] at hk
      refine cellsK_det.mono (fun cs hk => ?_) hk
      split at hk
      · split at hk
        · exact hk
        · split at hk
          · refine takeK_det.mono (fun _ hk => ?_) hk
            rw [spliceK_eq, lsetK_eq] at hk ⊢
            exact hi _ _ _ hk
          · exact hk
      · exact storeG_mono (fun h => hi _ _ _) hk
      · exact hk
    | makeMap t r =>
      rw [hop] at hk
      cases r <;> first | exact newM_mono (fun v h => hi _ _ _) hk | exact hk
    | lookup t m x ok =>
      rw [hop] at hk
      simp only at hk ⊢
      split at hk
      · exact asAV_det.mono (fun m hk => cellsK_det.mono (fun cs hk => lookA_mono (fun v => hi _ _ _) hk) hk) hk
      · exact hk
    | mapUpdate t m x v =>
      rw [hop] at hk
      simp only at hk ⊢
      split at hk
      · exact asAV_det.mono (fun m hk => cellsK_det.mono (fun cs hk => cellsK_det.mono (fun vs hk => updA_mono (fun h => hi _ _ _) hk) hk) hk) hk
      · exact hk
    | mapEntry t m x =>
      rw [hop] at hk
      simp only at hk ⊢
      split at hk
      · exact asAV_det.mono (fun m hk => cellsK_det.mono (fun cs hk => entA_mono (fun v h => hi _ _ _) hk) hk) hk
      · exact hk
    | entryStore t m i v =>
      rw [hop] at hk
      simp only at hk ⊢
      split at hk
      · exact asAV_det.mono (fun m hk => asAV_det.mono (fun i hk => cellsK_det.mono (fun vs hk => entS_mono (fun h => hi _ _ _) hk) hk) hk) hk
      · exact hk
    | range t m =>
      rw [hop] at hk
      simp only at hk ⊢
      split at hk
      · exact asAV_det.mono (fun m hk => rangeA_mono (fun v h => hi _ _ _) hk) hk
      · exact hk
    | next it str =>
      rw [hop] at hk
      cases str <;> first | exact asAV_det.mono (fun m hk => nextA_mono (fun v h => hi _ _ _) hk) hk | exact hk
    | entry it =>
      rw [hop] at hk
      exact asAV_det.mono (fun m hk => entryA_mono (fun v => hi _ _ _) hk) hk
    | makeSlice t n c =>
      rw [hop] at hk
      exact asAV_det.mono (fun n hk => asAV_det.mono (fun c hk => mkA_mono (fun v h => hi _ _ _) hk) hk) hk
    | call c =>
      obtain ⟨callee, args, ts⟩ := c
      rw [hop] at hl hk
      cases callee with
      | value x =>
        cases x with
        | func f => exact asAVs_det.mono (fun vs hk => callS_mono (fun v h => hi _ _ _) hk) hk
        | tmp t => exact asAV_det.mono (fun f hk => asAVs_det.mono (fun vs hk => callV_mono (fun v h => hi _ _ _) hk) hk) hk
        | _ => exact hk
      | invoke r n => exact hk
      | builtin bi =>
        cases bi <;> first | exact hk | (exact (hl rfl).elim) | skip
        · simp only at hk ⊢
          split at hk
          · split at hk
            · exact asAV_det.mono (fun n hk => asAV_det.mono (fun c hk => appA_mono (fun v h => hi _ _ _) hk) hk) hk
            · exact hk
          · exact hk
        · simp only at hk ⊢
          split at hk
          · split at hk
            · exact asAV_det.mono (fun x hk => lenS_det.mono (fun v => hi _ _ _) hk) hk
            · exact asAV_det.mono (fun x hk => lenM_det.mono (fun v => hi _ _ _) hk) hk
            · exact asAV_det.mono (fun x hk => lenA_det.mono (fun v => hi _ _ _) hk) hk
            · exact hk
          · exact hk
    | _ => rw [hop] at hl hk; first | exact hk | exact (hl rfl).elim
end
end Am
