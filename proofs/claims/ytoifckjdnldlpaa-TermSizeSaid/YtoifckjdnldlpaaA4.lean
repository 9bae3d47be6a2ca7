/- The table of types against the program's; what a state of the abstract machine says of a frame and a world. -/
import Derived.Test.YtoifckjdnldlpaaA3
set_option linter.unusedVariables false
set_option linter.unusedSimpArgs false
namespace Am
open Go

def zeroCk : AV → Value → Bool
  | .val (.int k n), .int k' m => k == k' && n == m
  | .val (.bool a), .bool b => a == b
  | .val (.string a), .string b => a.data.toList == b.data.toList
  | .val (.pointer none), .pointer none => true
  | .val (.map none), .map none => true
  | .val .nilFunc, .nilFunc => true
  | .val .nilIface, .nilIface => true
  | .e0, .slice _ 0 0 => true
  | _, _ => false
theorem zeroCk_rep {w : World} {C : Cx} {x : AV} {v : Value} (h : zeroCk x v = true) : Rep w C x v ∧ one v = true := by
  unfold zeroCk at h
  split at h <;> first
    | (rename_i a b; have e : a = b := by
         have h' := eq_of_beq h
         cases a; cases b; simp only [ByteArray.mk.injEq]; exact Array.ext' h'
       subst e; exact ⟨.val rfl, rfl⟩)
    | (simp at h; obtain ⟨rfl, rfl⟩ := h; exact ⟨.val rfl, rfl⟩)
    | (simp at h; subst h; exact ⟨.val rfl, rfl⟩)
    | exact ⟨.val rfl, rfl⟩
    | exact ⟨.e0, rfl⟩
    | (cases h)
def zerosCk : List AV → List Value → Bool
  | [], [] => true
  | x :: xs, v :: vs => zeroCk x v && zerosCk xs vs
  | _, _ => false
theorem zerosCk_rep : ∀ {xs : List AV} {vs : List Value}, zerosCk xs vs = true → xs.length = vs.length ∧ ∀ j, j < xs.length → zeroCk (g xs j) (vs.getD j undef) = true
  | [], [], _ => ⟨rfl, by simp⟩
  | x :: xs, v :: vs, h => by
    simp only [zerosCk, Bool.and_eq_true] at h
    obtain ⟨h1, h2⟩ := zerosCk_rep h.2
    refine ⟨by simp [h1], fun j hj => ?_⟩
    cases j with
    | zero => exact h.1
    | succ j => exact h2 j (by simpa using hj)
  | [], _ :: _, h => by cases h
  | _ :: _, [], h => by cases h
def kindD : TypeDesc → TK
  | .bool => .bool
  | .string => .str
  | .int k => .int k
  | _ => .other
def basicTy (P : Program) (t : TypeId) (k : TK) : Bool := match P.info? t, P.underlying t with
  | some i, some d => i.size == 1 && basicK k && decide (kindD d = k)
  | _, _ => false
def fldCk (P : Program) (ti : TyI) (fs : Array Field) (j : Nat) : Bool := match fs[j]? with
  | some f => f.offset == (ti.flds.getD j (0, 0)).1 && f.type == (ti.flds.getD j (0, 0)).2 && (match P.info? f.type with | some fi => decide (f.offset + fi.size ≤ ti.sz) | none => false)
  | none => false
def eqCk (P : Program) (ti : TyI) (fs : Array Field) (j : Nat) : Bool := match fs[j]? with
  | some f => f.name != "_" && f.offset == j && basicTy P f.type (ti.eq.getD j .other)
  | none => false
def elCk (P : Program) (ti : TyI) (e : TypeId) (j : Nat) : Bool := match P.info? e with
  | some fi => (ti.flds.getD j (0, 0)).1 == j * fi.size && (ti.flds.getD j (0, 0)).2 == e && decide (j * fi.size + fi.size ≤ ti.sz)
  | none => false
def nilB {α : Type} : List α → Bool
  | [] => true
  | _ :: _ => false
/-- All fields count for '=='. -/
def eqS (P : Program) (t : TypeId) (ti : TyI) (fs : Array Field) : Bool :=
  !P.stoodInHeld t && !P.eqGuardType P.depth t && ti.eq.length == fs.size && fs.size == ti.sz && (List.range fs.size).all (eqCk P ti fs)
def eqE (P : Program) (t : TypeId) (ti : TyI) (n : Nat) (e : TypeId) : Bool :=
  !P.eqGuardType P.depth t && ti.eq.length == n && n == ti.sz && ti.eq.all (basicTy P e)
def descCk (P : Program) (t : TypeId) (ti : TyI) : TypeDesc → Bool
  | .array n e => ti.agg && ti.arr && ti.elem == 0 && decide (ti.kd = .other) && ti.flds.length == n && (List.range n).all (elCk P ti e) && (nilB ti.eq || eqE P t ti n e) && (P.info? e).isSome
  | .struct fs => ti.agg && !ti.arr && ti.elem == 0 && decide (ti.kd = .other) && ti.flds.length == fs.size && (List.range fs.size).all (fldCk P ti fs) && (nilB ti.eq || eqS P t ti fs)
  | .slice e => !ti.agg && ti.sz == 1 && ti.elem == e && ti.flds.length == 0 && decide (ti.kd = .other)
  | .pointer _ | .func _ _ _ => !ti.agg && ti.sz == 1 && ti.elem == 0 && ti.flds.length == 0 && decide (ti.kd = .other)
  | .bool => !ti.agg && ti.sz == 1 && ti.elem == 0 && ti.flds.length == 0 && decide (ti.kd = .bool)
  | .string => !ti.agg && ti.sz == 1 && ti.elem == 0 && ti.flds.length == 0 && decide (ti.kd = .str)
  | .int k => !ti.agg && ti.sz == 1 && ti.elem == 0 && ti.flds.length == 0 && decide (ti.kd = .int k)
  | .map k e => !ti.agg && ti.sz == 1 && ti.elem == 0 && ti.flds.length == 0 && decide (ti.kd = .map k e)
  | _ => false
def aggV : Value → Bool
  | .agg _ => true
  | _ => false
def tyCheck (P : Program) (t : TypeId) (ti : TyI) : Bool := match P.info? t, P.underlying t with
  | some i, some d => i.size == ti.sz && i.bytes == ti.bytes && (match i.zero with | some z => z.cells.size == ti.sz && zerosCk ti.zero z.cells.toList && aggV z == ti.agg | none => false) && descCk P t ti d
  | _, _ => false
/-- The table tells what the program's own types say. -/
def TabOk (P : Program) (cf : Cfg) : Prop := pos (cf.ty 0).sz = false ∧ ∀ t, pos (cf.ty t).sz = true → tyCheck P t (cf.ty t) = true
structure TyF (P : Program) (t : TypeId) (ti : TyI) (i : TypeInfo) (z : Value) (d : TypeDesc) : Prop where
  info : P.info? t = some i
  und : P.underlying t = some d
  size : i.size = ti.sz
  bytes : i.bytes = ti.bytes
  zero : i.zero = some z
  zsize : z.cells.size = ti.sz
  zlen : ti.zero.length = ti.sz
  zck : ∀ j, j < ti.sz → zeroCk (g ti.zero j) (z.cells.getD j undef) = true
  desc : descCk P t ti d = true
  zagg : aggV z = ti.agg
theorem tyCheck_f {P : Program} {t : TypeId} {ti : TyI} (h : tyCheck P t ti = true) : ∃ i z d, TyF P t ti i z d := by
  unfold tyCheck at h
  split at h
  · rename_i i d hi hd
    simp only [Bool.and_eq_true, beq_iff_eq] at h
    obtain ⟨⟨⟨h1, h2⟩, h3⟩, h4⟩ := h
    split at h3
    · rename_i z hz
      simp only [Bool.and_eq_true, beq_iff_eq] at h3
      obtain ⟨h5, h6⟩ := zerosCk_rep h3.1.2
      have hl : ti.zero.length = ti.sz := by rw [h5]; simpa using h3.1.1
      refine ⟨i, z, d, hi, hd, h1, h2, hz, h3.1.1, hl, fun j hj => ?_, h4, h3.2⟩
      have := h6 j (by omega)
      simpa [List.getD_eq_getElem?_getD, Array.getD_eq_getD_getElem?] using this
    · cases h3
  · cases h
def isAggD : TypeDesc → Bool
  | .struct _ | .array _ _ => true
  | _ => false
section
variable {P : Program} {t : TypeId} {ti : TyI} {i : TypeInfo} {z : Value} {d : TypeDesc}
theorem TyF.agg (h : TyF P t ti i z d) : isAggD d = ti.agg := by
  have := h.desc
  cases d <;> simp_all [descCk, isAggD]
theorem TyF.sz1 (h : TyF P t ti i z d) (ha : ti.agg = false) : ti.sz = 1 := by
  have := h.desc
  cases d <;> simp_all [descCk]
theorem TyF.run_isAgg (h : TyF P t ti i z d) (w : World) : (isAgg t).run P w = .ok ti.agg w := by
  rw [← h.agg]
  simp only [isAgg, Sem.run_bind, run_underlying h.und, Result.andThen]
  cases d <;> rfl
theorem TyF.run_sizeOf (h : TyF P t ti i z d) (w : World) : (Go.sizeOf t).run P w = .ok ti.sz w := by
  simp [Go.sizeOf, typeInfo, h.info, h.size]
theorem TyF.run_typeInfo (h : TyF P t ti i z d) (w : World) : (typeInfo t).run P w = .ok i w := by
  simp [typeInfo, h.info]
theorem TyF.run_zero (h : TyF P t ti i z d) (w : World) : (zeroValue t).run P w = .ok z w := by
  simp [zeroValue, typeInfo, h.info, h.zero]
theorem TyF.zcells (h : TyF P t ti i z d) {w : World} {C : Cx} (j : Nat) (hj : j < ti.sz) : Rep w C (g ti.zero j) (z.cells.getD j undef) ∧ one (z.cells.getD j undef) = true := zeroCk_rep (h.zck j hj)
theorem TyF.str (h : TyF P t ti i z d) (hk : ti.kd = .str) : P.underlying t = some .string := by
  have h1 := h.desc
  rw [h.und]
  cases d <;> simp_all [descCk]
theorem TyF.bool (h : TyF P t ti i z d) (hk : ti.kd = .bool) : P.underlying t = some .bool := by
  have h1 := h.desc
  rw [h.und]
  cases d <;> simp_all [descCk]
theorem TyF.int (h : TyF P t ti i z d) {k : IntKind} (hk : ti.kd = .int k) : P.underlying t = some (.int k) := by
  have h1 := h.desc
  rw [h.und]
  cases d <;> simp_all [descCk]
theorem TyF.map (h : TyF P t ti i z d) {k e : Nat} (hk : ti.kd = .map k e) : P.underlying t = some (.map k e) := by
  have h1 := h.desc
  rw [h.und]
  cases d <;> simp_all [descCk]
theorem TyF.slice (h : TyF P t ti i z d) {cf : Cfg} (hT : TabOk P cf) (he : pos (cf.ty ti.elem).sz = true) : P.underlying t = some (.slice ti.elem) := by
  have h1 := h.desc
  have h2 := h.und
  have h0 := hT.1
  have hne : ti.elem ≠ 0 := fun e => by rw [e, h0] at he; cases he
  rw [h2]
  cases d <;> simp_all [descCk]
end

/-! ### A state -/
structure Base where
  w : World
  C : Cx
  h : Heap
def TRep (w : World) (C : Cx) (β : Nat → Option Nat) : TV → Value → Prop
  | .av x, v => Rep w C x v
  | .ag cs, v => Rep w C (.agg cs) v
  | .bl b, v => v = .bool b
  | .loc t off, v => ∃ x, β t = some x ∧ v = .pointer (some ⟨x, off, none⟩)
  | .und, v => v = undef
  | .dead, _ => True
/-- Block x holds a variable's cells. -/
def LRel (w : World) (C : Cx) (x : Nat) (cs : List AV) : Prop :=
  ∃ c e, w.heap[x]? = some (.cells c e (0, 0)) ∧ c.size = cs.length ∧ ∀ j, j < cs.length → ∃ v, c[j]? = some v ∧ one v = true ∧ Rep w C (g cs j) v
structure SR (b : Base) (env : Env) (loc : Loc) (h : Heap) (a : Act) (w : World) (C : Cx) (β : Nat → Option Nat) : Prop where
  dfr : a.defers = []
  len : env.length = a.tmps.size
  tmp : ∀ t, t < env.length → TRep w C β (nth env t) (a.tmps.getD t undef)
  lkey : ∀ t u off, nth env t = .loc u off → (lkp loc u).isSome
  ev : Ev b.w b.C b.h w C h
  vars : ∀ t cs, lkp loc t = some cs → ∃ x, β t = some x ∧ b.w.heap.size ≤ x ∧ ¬ C.im x ∧ ¬ Live C h x ∧ LRel w C x cs
  linj : ∀ t t' cs cs' x, lkp loc t = some cs → lkp loc t' = some cs' → β t = some x → β t' = some x → t = t'
/-- What is frozen stays. -/
structure Kept (fz : Fz) (env env' : Env) (loc loc' : Loc) : Prop where
  len : env'.length = env.length
  env : ∀ t, may fz.t t = false → nth env' t = nth env t
  vars : ∀ t, t ∈ fz.l → lkp loc' t = lkp loc t
  keys : ∀ t, (lkp loc t).isSome → (lkp loc' t).isSome
  lens : ∀ t cs, t ∈ fz.a → lkp loc t = some cs → ∃ cs', lkp loc' t = some cs' ∧ cs'.length = cs.length
theorem Kept.refl (fz : Fz) (env : Env) (loc : Loc) : Kept fz env env loc loc := ⟨rfl, fun _ _ => rfl, fun _ _ => rfl, fun _ h => h, fun t cs _ h => ⟨cs, h, rfl⟩⟩
theorem Kept.trans {fz : Fz} {env env1 env2 : Env} {loc loc1 loc2 : Loc} (A : Kept fz env env1 loc loc1) (B : Kept fz env1 env2 loc1 loc2) : Kept fz env env2 loc loc2 :=
  ⟨B.len.trans A.len, fun t h => (B.env t h).trans (A.env t h), fun t h => (B.vars t h).trans (A.vars t h), fun t h => B.keys t (A.keys t h), fun t cs ht h => by obtain ⟨c1, h1, h2⟩ := A.lens t cs ht h; obtain ⟨c2, h3, h4⟩ := B.lens t c1 ht h1; exact ⟨c2, h3, h4.trans h2⟩⟩
/-- What is frozen points to no variable that may be laid anew. -/
def FzOk (fz : Fz) (env : Env) : Prop := (∀ t u off, may fz.t t = false → nth env t = .loc u off → u ∈ fz.a) ∧ ∀ t, t ∈ fz.l → t ∈ fz.a
theorem FzOk.kept {fz : Fz} {env env' : Env} {loc loc' : Loc} (h : FzOk fz env) (k : Kept fz env env' loc loc') : FzOk fz env' :=
  ⟨fun t u off ht he => h.1 t u off ht (by rw [← k.env t ht]; exact he), h.2⟩

theorem TRep.mono {w w' : World} {C C' : Cx} {β β' : Nat → Option Nat} (hr : ∀ x v, Rep w C x v → Rep w' C' x v) {y : TV} {v : Value}
    (hb : ∀ u off, y = .loc u off → β' u = β u) (h : TRep w C β y v) : TRep w' C' β' y v := by
  cases y with
  | av x => exact hr _ _ h
  | ag cs => exact hr _ _ h
  | bl b => exact h
  | loc u off => obtain ⟨x, h1, h2⟩ := h; exact ⟨x, by rw [hb u off rfl]; exact h1, h2⟩
  | und => exact h
  | dead => trivial
theorem LRel.mono {w w' : World} {C C' : Cx} (hr : ∀ x v, Rep w C x v → Rep w' C' x v) {x : Nat} {cs : List AV} (hx : w'.heap[x]? = w.heap[x]?) (h : LRel w C x cs) : LRel w' C' x cs := by
  obtain ⟨c, e, h1, h2, h3⟩ := h
  exact ⟨c, e, by rw [hx]; exact h1, h2, fun j hj => by obtain ⟨v, a, b, c⟩ := h3 j hj; exact ⟨v, a, b, hr _ _ c⟩⟩
theorem LRel.lt {w : World} {C : Cx} {x : Nat} {cs : List AV} (h : LRel w C x cs) : x < w.heap.size := by
  obtain ⟨c, e, h1, _⟩ := h; exact (Array.getElem?_eq_some_iff.1 h1).1
theorem TRep.asV {w : World} {C : Cx} {β : Nat → Option Nat} {y : TV} {v : Value} {x : AV} (h : TRep w C β y v) (hx : asV y = some x) : Rep w C x v := by
  cases y with
  | av x' => simp only [Am.asV, Option.some.injEq] at hx; subst hx; exact h
  | ag cs => simp only [Am.asV, Option.some.injEq] at hx; subst hx; exact h
  | bl b' => simp only [Am.asV, Option.some.injEq] at hx; subst hx; have h' : v = .bool b' := h; rw [h']; exact .val rfl
  | loc u off => cases hx
  | und => cases hx
  | dead => cases hx

section
variable {b : Base} {env : Env} {loc : Loc} {h : Heap} {a : Act} {w : World} {C : Cx} {β : Nat → Option Nat}
/-- The world goes on; this call's variables are not touched. -/
theorem SR.step (H : SR b env loc h a w C β) {w' : World} {C' : Cx} {h' : Heap} (E : Ev w C h w' C' h') : SR b env loc h' a w' C' β where
  dfr := H.dfr
  len := H.len
  tmp t ht := (H.tmp t ht).mono (fun x v => E.rep H.ev.rel) fun _ _ _ => rfl
  lkey := H.lkey
  ev := H.ev.trans E
  vars t cs hcs := by
    obtain ⟨x, h1, h2, h3, h4, h5⟩ := H.vars t cs hcs
    refine ⟨x, h1, h2, fun hi => ?_, fun hl => ?_, h5.mono (fun x v => E.rep H.ev.rel) (E.frame x h5.lt h4)⟩
    · rcases E.im' x hi with hi | hi | hi
      · exact h3 hi
      · exact h4 hi
      · exact absurd h5.lt (by omega)
    · rcases E.live' x hl with hi | hi
      · exact h4 hi
      · exact absurd h5.lt (by omega)
  linj := H.linj
theorem ev_rep (H : SR b env loc h a w C β) (x : Operand) : TRep w C β (ev env x) (a.eval x) := by
  cases x with
  | tmp t =>
    by_cases ht : t < env.length
    · exact H.tmp t ht
    · have : nth env t = .dead := by rw [nth_eq, List.getD_eq_getElem?_getD, List.getElem?_eq_none (Nat.le_of_not_lt ht)]; rfl
      show TRep w C β (nth env t) _
      rw [this]; trivial
  | const v =>
    show TRep w C β (cAV v) v
    unfold cAV
    split
    · rfl
    · exact .e0
    · split
      · rename_i hp; exact .val hp
      · trivial
  | func f => exact .fn #[] rfl (by simp)
  | global g => trivial
theorem SR.put (H : SR b env loc h a w C β) {fz : Fz} {dst : Option Tmp} {y : TV} {v : Value} {k : Env → Prop} (hy : TRep w C β y v) (hl : ∀ u off, y = .loc u off → (lkp loc u).isSome)
    (hk : putK fz env dst y k) : ∃ env', SR b env' loc h (a.put dst v) w C β ∧ Kept fz env env' loc loc ∧ k env' := by
  cases dst with
  | none => exact ⟨env, H, Kept.refl _ _ _, hk⟩
  | some d =>
    simp only [putK] at hk
    cases hm : may fz.t d with
    | false => rw [hm] at hk; exact (show False from hk).elim
    | true =>
      rw [hm] at hk
      simp only [setK_eq] at hk
      have hk : ∃ y, TRep w C β y v ∧ (∀ u off, y = .loc u off → (lkp loc u).isSome) ∧ k (env.set d y) := by
        split at hk
        · exact ⟨y, hy, hl, hk⟩
        · split at hk
          · rename_i c
            unfold brA at hk
            split at hk
            · rename_i x
              cases hy with
              | val hp =>
                cases x
                · exact ⟨.bl false, rfl, fun _ _ h => (by cases h), hk.2 rfl⟩
                · exact ⟨.bl true, rfl, fun _ _ h => (by cases h), hk.1 rfl⟩
            · exact hk.elim
          · exact ⟨_, hy, hl, hk⟩
      clear hy hl
      obtain ⟨y, hy, hl, hk⟩ := hk
      refine ⟨env.set d y, ⟨H.dfr, ?_, fun t ht => ?_, fun t u off he => ?_, H.ev, H.vars, H.linj⟩, ⟨by simp, fun t ht => ?_, fun _ _ => rfl, fun _ h => h, fun t cs _ h => ⟨cs, h, rfl⟩⟩, hk⟩
      · simp [Act.put, H.len]
      · rw [nth_set]
        by_cases e : d = t
        · subst e
          have ht' : d < env.length := by simpa using ht
          have ht2 : d < a.tmps.size := by rw [← H.len]; exact ht'
          rw [if_pos ⟨rfl, ht'⟩]
          simpa [Act.put, Array.getD_eq_getD_getElem?, Array.getElem?_setIfInBounds, ht2] using hy
        · rw [if_neg (fun h => e h.1)]
          have ht' : t < env.length := by simpa using ht
          have := H.tmp t ht'
          simpa [Act.put, Array.getD_eq_getD_getElem?, Array.getElem?_setIfInBounds, e] using this
      · rw [nth_set] at he
        split at he
        · exact hl u off he
        · exact H.lkey t u off he
      · rw [nth_set, if_neg (fun h => by rw [h.1, ht] at hm; cases hm)]
end
end Am
