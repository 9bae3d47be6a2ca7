/- Literals of structs and slices. -/
import Derived.Test.YtoifckjdnldlpaaB1
import Derived.Great.BuildSlice
set_option linter.unusedVariables false
set_option linter.unusedSimpArgs false
namespace Am
open Go
theorem mapM_some {α β : Type} (f : α → Option β) : ∀ (l : List α), (∀ x ∈ l, (f x).isSome) → ∃ r : List β, l.mapM f = some r ∧ ∀ i : Nat, r[i]? = (l[i]?).bind f
  | [], _ => ⟨[], by simp, by simp⟩
  | x :: xs, h => by
    obtain ⟨r, h1, h2⟩ := mapM_some f xs fun y hy => h y (List.mem_cons_of_mem _ hy)
    obtain ⟨y, hy⟩ := Option.isSome_iff_exists.1 (h x List.mem_cons_self)
    refine ⟨y :: r, by simp [hy, h1], fun i => ?_⟩
    cases i with
    | zero => simp [hy]
    | succ i => simpa using h2 i
section
variable {P : Program} {cf : Cfg} {fz : Fz} {b : Base} {env : Env} {loc : Loc} {h : Heap} {a : Act} {w : World} {C : Cx} {β : Nat → Option Nat} {k : K} {o : Oper} {Q : Exit → Act → World → Prop}
/-- Cells that say what a list says. -/
def CRel (w : World) (C : Cx) (cs : List AV) (vs : Array Value) : Prop := vs.size = cs.length ∧ ∀ j, j < cs.length → one (vs.getD j undef) = true ∧ Rep w C (g cs j) (vs.getD j undef)
theorem CRel.splice {cs ds : List AV} {vs us : Array Value} {off : Nat} (H : CRel w C cs vs) (D : CRel w C ds us) (hl : off + ds.length ≤ cs.length) :
    CRel w C (splice cs off ds) (us.zipIdx.foldl (fun cs (c, j) => cs.setIfInBounds (off + j) c) vs) := by
  have hf : us.zipIdx.foldl (fun cs (x : Value × Nat) => cs.setIfInBounds (off + x.2) x.1) vs = (us.toList.zipIdx 0).foldl (fun cs (x : Value × Nat) => cs.setIfInBounds (off + x.2) x.1) vs := by
    rw [← Array.foldl_toList]; simp
  obtain ⟨g1, g2⟩ := Great.foldl_set off us.toList 0 vs
  have hs : (us.zipIdx.foldl (fun cs (x : Value × Nat) => cs.setIfInBounds (off + x.2) x.1) vs).size = vs.size := by rw [hf, g1]
  refine ⟨by rw [hs, splice_length, H.1], fun j hj => ?_⟩
  rw [splice_length] at hj
  have hj' : j < vs.size := by rw [H.1]; exact hj
  have hv : (us.zipIdx.foldl (fun cs (x : Value × Nat) => cs.setIfInBounds (off + x.2) x.1) vs).getD j undef = if off ≤ j ∧ j < off + ds.length then us.getD (j - off) undef else vs.getD j undef := by
    rw [Array.getD_eq_getD_getElem?, hf]
    have := g2 j
    rw [this]
    by_cases hb : off ≤ j ∧ j < off + ds.length
    · rw [if_pos hb, if_pos (by have := D.1; simp; omega)]
      simp [Array.getD_eq_getD_getElem?]
    · rw [if_neg hb, if_neg (by have := D.1; simp; omega)]
      simp [Array.getD_eq_getD_getElem?]
  show one (Array.getD _ j undef) = true ∧ Rep w C (g (Am.splice cs off ds) j) (Array.getD _ j undef)
  rw [hv, g_splice _ _ _ _ hl]
  by_cases hb : off ≤ j ∧ j < off + ds.length
  · rw [if_pos hb, if_pos hb]; exact D.2 _ (by omega)
  · rw [if_neg hb, if_neg hb]; exact H.2 _ hj
theorem posAll_mem {ti : TyI} : ∀ {l : List (Nat × Operand)}, posAll cf ti l = true → ∀ x ∈ l, pos (cf.ty (ti.flds.getD x.1 (0, 0)).2).sz = true
  | [], _, x, hx => by cases hx
  | y :: l, h, x, hx => by
    have h' : (match pos (cf.ty (ti.flds.getD y.1 (0, 0)).2).sz with | true => posAll cf ti l | false => false) = true := h
    cases hp : pos (cf.ty (ti.flds.getD y.1 (0, 0)).2).sz with
    | false => rw [hp] at h'; cases h'
    | true =>
      rw [hp] at h'
      rcases List.mem_cons.1 hx with rfl | hx
      · exact hp
      · exact posAll_mem h' x hx
theorem fill_build (HT : TabOk P cf) (H : SR b env loc h a w C β) {ti : TyI} {place : Nat → Option (Nat × Nat)} (hp : ∀ i, pos (cf.ty (ti.flds.getD i (0, 0)).2).sz = true → place i = some ((ti.flds.getD i (0, 0)).1, (cf.ty (ti.flds.getD i (0, 0)).2).sz) ∧ (ti.flds.getD i (0, 0)).1 + (cf.ty (ti.flds.getD i (0, 0)).2).sz ≤ ti.sz) :
    ∀ (parts : List (Nat × Operand)) (cs : List AV) (cells : Array Value) (k : List AV → Prop), (∀ x ∈ parts, pos (cf.ty (ti.flds.getD x.1 (0, 0)).2).sz = true) → cs.length = ti.sz → CRel w C cs cells → buildK cf (ev env) ti parts cs k →
      ∃ cells' cs', Instr.fill place cells (parts.map fun x => (x.1, a.eval x.2)) = some cells' ∧ cs'.length = ti.sz ∧ CRel w C cs' cells' ∧ k cs'
  | [], cs, cells, k, _, hl, hc, hk => ⟨cells, cs, rfl, hl, hc, hk⟩
  | (i, x) :: rest, cs, cells, k, hpos, hl, hc, hk => by
    have hpi := hpos (i, x) List.mem_cons_self
    obtain ⟨h1, h2⟩ := hp i hpi
    obtain ⟨fi, fz', fd, F⟩ := tyCheck_f (HT.2 _ hpi)
    obtain ⟨ds, hd1, hk, hd2, hd3⟩ := cellsK_elim hk F.sz1 (ev_rep H x)
    rw [spliceK_eq] at hk
    have hD : CRel w C ds (a.eval x).cells := ⟨by omega, fun j hj => hd3 j (by omega)⟩
    have hS := hc.splice hD (off := (ti.flds.getD i (0, 0)).1) (by omega)
    obtain ⟨cells', cs', h3, h4, h5, h6⟩ := fill_build HT H hp rest _ _ k (fun y hy => hpos y (List.mem_cons_of_mem _ hy)) (by rw [splice_length]; exact hl) hS hk
    refine ⟨cells', cs', ?_, h4, h5, h6⟩
    simp only [List.map_cons]
    unfold Instr.fill
    simp only [h1]
    rw [if_neg (by have := hc.1; simp only [hd2, ne_eq, not_true_eq_false, decide_false, Bool.false_or, decide_eq_true_eq, gt_iff_lt, Nat.not_lt]; omega)]
    exact h3
theorem op_build (HT : TabOk P cf) (H : SR b env loc h a w C β) {t : TypeId} {parts : Array (Nat × Operand)} (ho : o.op = .build t parts) (hty : opTy cf o = true) (hk : aop P cf fz o env loc h k) : Oper.wp P o a w (Next b fz env loc k) Q := by
  simp only [opTy, ho] at hty
  split at hty
  case h_2 => cases hty
  rename_i hpos hagg
  obtain ⟨i, z, d, F⟩ := tyCheck_f (HT.2 t hpos)
  simp only [aop, ho] at hk
  have hu := F.und
  have hd := F.desc
  have hall := posAll_mem hty
  cases d with
  | struct fs =>
    simp only [descCk, Bool.and_eq_true, beq_iff_eq, List.all_eq_true, List.mem_range] at hd
    have hfs : ∀ j, j < fs.size → ∃ f, fs[j]? = some f ∧ f.offset = (cf.ty t |>.flds.getD j (0, 0)).1 ∧ f.type = (cf.ty t |>.flds.getD j (0, 0)).2 ∧ ∃ fi, P.info? f.type = some fi ∧ f.offset + fi.size ≤ (cf.ty t).sz := by
      intro j hj
      have := hd.1.2 j hj
      unfold fldCk at this
      cases hf : fs[j]? with
      | none => rw [hf] at this; cases this
      | some f =>
        rw [hf] at this
        simp only [Bool.and_eq_true, beq_iff_eq] at this
        cases hfi : P.info? f.type with
        | none => rw [hfi] at this; simp at this
        | some fi => rw [hfi] at this; exact ⟨f, rfl, this.1.1, this.1.2, fi, hfi, by simpa using this.2⟩
    obtain ⟨places, hpl, hpi⟩ := mapM_some (fun f : Field => (P.info? f.type).map fun i => (f.offset, i.size)) fs.toList (fun f hf => by
      obtain ⟨j, hj, rfl⟩ := List.getElem_of_mem hf
      have hj' : j < fs.size := by simpa using hj
      obtain ⟨f', h1, _, _, fi, h2, _⟩ := hfs j hj'
      have : f' = fs.toList[j] := by have := h1; simp [hj'] at this; simp [this]
      rw [← this, h2]; rfl)
    have hplace : ∀ i, pos (cf.ty ((cf.ty t).flds.getD i (0, 0)).2).sz = true → places.toArray[i]? = some (((cf.ty t).flds.getD i (0, 0)).1, (cf.ty ((cf.ty t).flds.getD i (0, 0)).2).sz) ∧ ((cf.ty t).flds.getD i (0, 0)).1 + (cf.ty ((cf.ty t).flds.getD i (0, 0)).2).sz ≤ (cf.ty t).sz := by
      intro i hi
      obtain ⟨fi', fz', fd, F2⟩ := tyCheck_f (HT.2 _ hi)
      have hlt : i < fs.size := by
        rcases Nat.lt_or_ge i fs.size with h | h
        · exact h
        · rw [List.getD_eq_getElem?_getD, List.getElem?_eq_none (by omega)] at hi
          simp only [Option.getD_none] at hi
          rw [HT.1] at hi; cases hi
      obtain ⟨f, h1, h2, h3, fi, h4, h5⟩ := hfs i hlt
      have h6 := F2.info
      rw [← h3, h4] at h6; cases h6
      have h7 := F2.size
      rw [List.getElem?_toArray, hpi i]
      have : fs.toList[i]? = some f := by simpa using h1
      rw [this]
      simp only [Option.bind_some, h4, Option.map_some, h2, h7]
      exact ⟨trivial, by rw [← h2, ← h7]; exact h5⟩
    obtain ⟨cells', cs', h3, h4, h5, h6⟩ := fill_build HT H (place := (places.toArray[·]?)) hplace parts.toList (cf.ty t).zero z.cells _ hall F.zlen ⟨by rw [F.zsize, F.zlen], fun j hj => (F.zcells j (by rw [← F.zlen]; exact hj)).symm⟩ hk
    obtain ⟨h7, h8⟩ := takeK_elim h6
    rw [List.take_of_length_le (by omega)] at h8
    refine wp_same H (v := .agg cells') ?_ (y := .ag cs') (.agg _ h5.1 (fun j hj => (h5.2 j hj).1) (fun j hj => (h5.2 j hj).2)) (fun _ _ h => by cases h) h8
    have hb : P.built t (parts.map fun (i, x) => (i, a.eval x)).toList = some cells' := by
      unfold Program.built
      simp only [F.info, hu, F.zero, hpl]
      rw [← h3]; congr 1; simp
    simp only [execOp, ho, Sem.run_bind, run_build w t _ cells' hb, Result.andThen]
    rfl
  | array n e =>
    simp only [descCk, Bool.and_eq_true, beq_iff_eq, List.all_eq_true, List.mem_range] at hd
    have hel : ∀ j, j < n → ∃ fi, P.info? e = some fi ∧ (cf.ty t |>.flds.getD j (0, 0)).1 = j * fi.size ∧ (cf.ty t |>.flds.getD j (0, 0)).2 = e ∧ j * fi.size + fi.size ≤ (cf.ty t).sz := by
      intro j hj
      have := hd.1.1.2 j hj
      unfold elCk at this
      cases hfi : P.info? e with
      | none => rw [hfi] at this; cases this
      | some fi =>
        rw [hfi] at this
        simp only [Bool.and_eq_true, beq_iff_eq, decide_eq_true_eq] at this
        exact ⟨fi, rfl, this.1.1, this.1.2, this.2⟩
    have hplace : ∀ i, pos (cf.ty ((cf.ty t).flds.getD i (0, 0)).2).sz = true → (fun i => (P.info? e).map fun fi => (i * fi.size, fi.size)) i = some (((cf.ty t).flds.getD i (0, 0)).1, (cf.ty ((cf.ty t).flds.getD i (0, 0)).2).sz) ∧ ((cf.ty t).flds.getD i (0, 0)).1 + (cf.ty ((cf.ty t).flds.getD i (0, 0)).2).sz ≤ (cf.ty t).sz := by
      intro i hi
      obtain ⟨fi', fz', fd, F2⟩ := tyCheck_f (HT.2 _ hi)
      have hlt : i < n := by
        rcases Nat.lt_or_ge i n with h | h
        · exact h
        · rw [List.getD_eq_getElem?_getD, List.getElem?_eq_none (by omega)] at hi
          simp only [Option.getD_none] at hi
          rw [HT.1] at hi; cases hi
      obtain ⟨fi, h1, h2, h3, h4⟩ := hel i hlt
      have h6 := F2.info
      rw [h3, h1] at h6; cases h6
      have h7 := F2.size
      simp only [h1, Option.map_some, h2, h7]
      exact ⟨trivial, by rw [← h7]; exact h4⟩
    obtain ⟨cells', cs', h3, h4, h5, h6⟩ := fill_build HT H (place := fun i => (P.info? e).map fun fi => (i * fi.size, fi.size)) hplace parts.toList (cf.ty t).zero z.cells _ hall F.zlen ⟨by rw [F.zsize, F.zlen], fun j hj => (F.zcells j (by rw [← F.zlen]; exact hj)).symm⟩ hk
    obtain ⟨h7, h8⟩ := takeK_elim h6
    rw [List.take_of_length_le (by omega)] at h8
    refine wp_same H (v := .agg cells') ?_ (y := .ag cs') (.agg _ h5.1 (fun j hj => (h5.2 j hj).1) (fun j hj => (h5.2 j hj).2)) (fun _ _ h => by cases h) h8
    cases hfi : P.info? e with
    | none =>
      rw [hfi] at hd; simp at hd
    | some fi =>
      have hb : (Instr.build t (parts.map fun (i, x) => (i, a.eval x))).run P w = .ok (.agg cells') w := by
        rw [hfi] at h3
        simp only [Option.map_some] at h3
        have hsz : (Go.sizeOf e).run P w = .ok fi.size w := by simp [Go.sizeOf, typeInfo, hfi]
        simp only [Instr.build, Sem.run_bind, F.run_zero, Result.andThen, run_underlying hu, hsz]
        have e2 : (parts.map fun (i, x) => (i, a.eval x)).toList = parts.toList.map fun x => (x.1, a.eval x.2) := by simp
        rw [e2, h3]
        rfl
      simp only [execOp, ho, Sem.run_bind, hb, Result.andThen]
      rfl
  | _ => simp_all [descCk]
end
end Am
