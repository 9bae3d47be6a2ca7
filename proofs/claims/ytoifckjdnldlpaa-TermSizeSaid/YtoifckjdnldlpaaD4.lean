/- Operations look at their operands; pure ones at no more. -/
import Derived.Test.YtoifckjdnldlpaaD3
set_option linter.unusedVariables false
set_option linter.unusedSimpArgs false
namespace Am
open Go
section
variable {P : Program} {cf : Cfg} {fz : Fz} {env : Env} {loc : Loc} {h : Heap} {o : Oper} {e e' : Operand → TV}
def opnds (o : Oper) : List Operand := match o.op with
  | .move x | .assign x | .box _ x | .load _ x | .nilCheck x | .fieldAddr _ x _ | .unOp _ _ x | .extract x _ | .convert _ _ x | .range _ x | .next x _ | .entry x => [x]
  | .pick c a b => [c, a, b]
  | .store _ x v => [x, v]
  | .indexAddr _ x i | .index _ x i => [x, i]
  | .binOp _ _ x y _ => [x, y]
  | .build _ ps | .buildSlice _ _ ps => ps.toList.map (·.2)
  | .makeSlice _ n c => [n, c]
  | .slice _ x lo hi mx => x :: (lo.toList ++ (hi.toList ++ mx.toList))
  | .lookup _ m x _ | .mapEntry _ m x => [m, x]
  | .mapUpdate _ m x v | .entryStore _ m x v => [m, x, v]
  | .makeFunc _ _ caps => caps.toList
  | .call { callee := .value f, args, .. } => f :: args.toList
  | .call { args, .. } => args.toList
  | _ => []
theorem map_congr {α : Type} {l : List α} {f f' : α → TV} (h : ∀ x, x ∈ l → f x = f' x) : l.map f = l.map f' := List.map_congr_left h
theorem buildK_congr {ti : TyI} : ∀ {l : List (Nat × Operand)} {cs : List AV} {k : List AV → Prop}, (∀ x, x ∈ l.map (·.2) → e x = e' x) → buildK cf e ti l cs k = buildK cf e' ti l cs k
  | [], cs, k, h => rfl
  | (i, x) :: rest, cs, k, h => by
    simp only [buildK]
    rw [h x (by simp)]
    congr 1
    funext ds
    congr 1
    funext cs
    exact buildK_congr (fun y hy => h y (List.mem_cons_of_mem _ hy))
theorem optK_congr {x : Option Operand} {k : Option AV → Prop} (h : ∀ y, y ∈ x.toList → e y = e' y) : optK e x k = optK e' x k := by
  cases x with
  | none => rfl
  | some x => simp only [optK]; rw [h x (by simp)]
theorem sem_congr {K : TV → Loc → Heap → Prop} (he : ∀ x, x ∈ opnds o → e x = e' x) : sem P cf fz o e loc h K = sem P cf fz o e' loc h K := by
  unfold opnds at he
  unfold sem
  cases hop : o.op with
  | slice t x lo hi mx =>
    rw [hop] at he
    simp only at he ⊢
    rw [he x (by simp)]
    cases mx with
    | some m =>
      simp only
      cases lo <;> cases hi <;> first | rfl | skip
      rename_i hi
      simp only
      rw [he hi (by simp), he m (by simp)]
    | none =>
      simp only
      congr 1
      funext v
      rw [optK_congr (e := e) (e' := e') (fun y hy => he y (by simp at hy; simp [hy]))]
      congr 1
      funext l
      rw [optK_congr (e := e) (e' := e') (fun y hy => he y (by simp at hy; simp [hy]))]
  | build t ps =>
    rw [hop] at he
    simp only at he ⊢
    exact buildK_congr he
  | buildSlice t n ps =>
    rw [hop] at he
    simp only at he ⊢
    have : ps.toList.map (fun p => e p.2) = ps.toList.map (fun p => e' p.2) := List.map_congr_left fun p hp => he _ (List.mem_map_of_mem hp)
    rw [this]
  | makeFunc f first caps =>
    rw [hop] at he
    simp only at he ⊢
    cases f with
    | func f => simp only; rw [map_congr he]
    | _ => rfl
  | unOp op t x =>
    rw [hop] at he
    simp only at he ⊢
    cases op <;> simp [he x (by simp)]
  | call c =>
    obtain ⟨callee, args, ts⟩ := c
    rw [hop] at he
    cases callee with
    | value x =>
      simp only at he
      have h1 : args.toList.map e = args.toList.map e' := map_congr fun y hy => he y (by simp at hy; simp [hy])
      have h2 := he x (by simp)
      cases x with
      | func f => simp only; rw [h1]
      | tmp t => simp only; rw [h1, h2]
      | _ => rfl
    | invoke r n => rfl
    | builtin bi =>
      simp only at he
      cases bi <;> first | rfl | skip
      all_goals
        simp only
        split <;> first | rfl | simp_all
  | _ => (rw [hop] at he) <;> simp_all
theorem loadV_ro {p : AV} {k : AV → Prop} {h2 : Heap} (hk : fixA p (loadV p h k)) : fixA p (loadV p h2 k) := by
  cases p <;> first | exact hk | exact hk.elim
theorem loadG_ro {sz : Nat} {p : AV} {k : List AV → Prop} {h2 : Heap} (hk : fixA p (loadG sz p h k)) : fixA p (loadG sz p h2 k) := by
  cases p <;> first | exact hk | exact hk.elim
theorem idxA_ro {es : Nat} {x i : AV} {k : AV → Prop} {h2 : Heap} (hk : fixA x (idxA es x i h k)) : fixA x (idxA es x i h2 k) := by
  cases x <;> first | exact hk | exact hk.elim
/-- What a pure operation tells does not hang on what others turn. -/
theorem sem_stable {loc2 : Loc} {h2 : Heap} {k : TV → Prop} (hl : like cf o = true) (hd : fz.d = true) (hloc : reads o = true → ∀ u, (lkp loc u).isSome → lkp loc2 u = lkp loc u)
    (hh : reads o = true → nmem cf.own (o.dst.getD 0) = true → h2 = h) (hk : sem P cf fz o e loc h fun y _ _ => k y) : sem P cf fz o e loc2 h2 fun y _ _ => k y := by
  unfold like at hl
  unfold reads at hloc hh
  unfold sem at hk ⊢
  cases hop : o.op with
  | load t x =>
    rw [hop] at hk hloc hh
    simp only at hk ⊢
    split at hk
    · rename_i u off he
      split at hk
      · rename_i cs hcs
        rw [hloc rfl u (by simp [hcs]), hcs]
        exact hk
      · exact (show False from hk).elim
    · rename_i p he
      unfold drK at hk ⊢
      rw [hd] at hk ⊢
      simp only at hk ⊢
      cases ho : nmem cf.own (o.dst.getD 0) with
      | true => rw [ho] at hk; rw [hh rfl ho]; exact hk
      | false =>
        rw [ho] at hk
        simp only at hk ⊢
        split at hk
        · exact loadG_ro hk
        · exact loadV_ro hk
    · exact (show False from hk).elim
  | indexAddr t x i =>
    rw [hop] at hk hloc hh
    refine asAV_det.mono (fun x hk => asAV_det.mono (fun i hk => ?_) hk) hk
    unfold drK at hk ⊢
    rw [hd] at hk ⊢
    simp only at hk ⊢
    cases ho : nmem cf.own (o.dst.getD 0) with
    | true => rw [ho] at hk; rw [hh rfl ho]; exact hk
    | false =>
      rw [ho] at hk
      exact idxA_ro hk
  | unOp op t x => rw [hop] at hk; cases op <;> exact hk
  | makeFunc f first caps => rw [hop] at hk; cases f <;> exact hk
  | call c =>
    obtain ⟨callee, args, ts⟩ := c
    rw [hop] at hl hk
    cases callee with
    | value x => cases hl
    | invoke r n => cases hl
    | builtin bi =>
      cases bi <;> first | (cases hl; done) | exact hk | skip
      simp only at hl hk ⊢
      split at hk
      · rename_i x t h1 h2
        rw [h2] at hl
        simp only at hl
        split at hk
        · exact hk
        · rename_i hm; rw [hm] at hl; cases hl
        · exact hk
        · exact hk
      · exact hk
  | _ => (rw [hop] at hl hk) <;> first | exact hk | (cases hl; done)
end
end Am
