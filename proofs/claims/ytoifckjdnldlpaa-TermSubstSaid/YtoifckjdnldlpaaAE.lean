/- '==' of cells, of structs and of arrays of cells; keys of maps. -/
import Derived.Test.YtoifckjdnldlpaaA8
import Derived.DeepKeys3
set_option linter.unusedVariables false
set_option linter.unusedSimpArgs false
namespace Am
open Go
section
variable {P : Program} {cf : Cfg} {w : World} {C : Cx}
/-- Cells that a kind's '==' takes, as values. -/
def EqV : TK → Value → Value → Bool → Prop
  | .int _, .int k a, .int k' b, r => k = k' ∧ r = (a == b)
  | .bool, .bool a, .bool b, r => r = (a == b)
  | .str, .string a, .string b, r => r = (a.toList == b.toList)
  | _, _, _, _ => False
theorem eqCell_v {k : TK} {x y : AV} {r : Bool} {v u : Value} (h : eqCell k x y = some r) (hx : Rep w C x v) (hy : Rep w C y u) : EqV k v u r := by
  unfold eqCell at h
  split at h
  · cases hx; cases hy
    split at h
    · rename_i e; cases h; exact ⟨e, rfl⟩
    · cases h
  · cases hx; cases hy; cases h; rfl
  · cases hx; cases hy; cases h; rfl
  · cases h
theorem EqV.val {k : TK} {v u : Value} (h : EqV k v u true) : v = u := by
  unfold EqV at h
  split at h
  · obtain ⟨rfl, h⟩ := h; simp at h; rw [h]
  · simp at h; rw [h]
  · rename_i a b
    have h := eq_of_beq h.symm
    rw [ByteArray.toList_eq, ByteArray.toList_eq] at h
    have : a = b := by cases a; cases b; simp only [ByteArray.mk.injEq]; exact Array.ext' h
    rw [this]
  · cases h
theorem basicTy_f {t : TypeId} {k : TK} (h : basicTy P t k = true) : ∃ i d, P.info? t = some i ∧ P.underlying t = some d ∧ i.size = 1 ∧ basicK k = true ∧ kindD d = k := by
  unfold basicTy at h
  split at h
  · rename_i i d hi hd
    simp only [Bool.and_eq_true, beq_iff_eq, decide_eq_true_eq] at h
    exact ⟨i, d, hi, hd, h.1.1, h.1.2, h.2⟩
  · cases h
theorem run_equalIn_v {t : TypeId} {k : TK} {v u : Value} {r : Bool} (ht : basicTy P t k = true) (h : EqV k v u r) (n : Nat) (w : World) : (Op.equalIn (n + 1) t v u).run P w = .ok r w := by
  obtain ⟨i, d, hi, hd, _, hk, rfl⟩ := basicTy_f ht
  unfold EqV at h
  split at h
  · rename_i k0 k1 a k2 b hkd
    obtain ⟨rfl, rfl⟩ := h
    cases d <;> simp [kindD] at hkd
    exact run_equalIn_int w n t _ _ a b hd
  · rename_i a b hkd
    subst h
    cases d <;> simp [kindD] at hkd
    exact run_equalIn_bool' w n t a b hd
  · rename_i a b hkd
    subst h
    cases d <;> simp [kindD] at hkd
    exact run_equalIn_string w n t a b hd
  · cases h
theorem run_isAgg_basic {t : TypeId} {k : TK} (ht : basicTy P t k = true) (w : World) : (isAgg t).run P w = .ok false w := by
  obtain ⟨i, d, hi, hd, _, hk, rfl⟩ := basicTy_f ht
  simp only [isAgg, Sem.run_bind, run_underlying hd, Result.andThen]
  cases d <;> first | rfl | (simp [kindD, basicK] at hk)
theorem run_part_basic {t : TypeId} {k : TK} (ht : basicTy P t k = true) {cs : Array Value} {j : Nat} {v : Value} (hj : cs[j]? = some v) (w : World) : (part t cs j).run P w = .ok v w := by
  simp [part, run_isAgg_basic ht, hj]
/-- Rows of cells, compared one by one. -/
def EqVs : List TK → List Value → List Value → Bool → Prop
  | [], [], [], r => r = true
  | t :: ts, x :: xs, y :: ys, r => ∃ q, EqV t x y q ∧ (q = false → r = false) ∧ (q = true → EqVs ts xs ys r)
  | _, _, _, _ => False
theorem eqCells_v : ∀ {ks : List TK} {xs ys : List AV} {r : Bool} {vs us : List Value}, eqCells ks xs ys = some r → vs.length = xs.length → us.length = ys.length →
    (∀ j, j < xs.length → Rep w C (g xs j) (vs.getD j undef)) → (∀ j, j < ys.length → Rep w C (g ys j) (us.getD j undef)) → EqVs ks vs us r
  | [], [], [], r, vs, us, h, h1, h2, h3, h4 => by
    obtain rfl := List.eq_nil_of_length_eq_zero h1
    obtain rfl := List.eq_nil_of_length_eq_zero h2
    simp only [eqCells, Option.some.injEq] at h
    exact h.symm
  | t :: ts, x :: xs, y :: ys, r, v :: vs, u :: us, h, h1, h2, h3, h4 => by
    simp only [eqCells] at h
    have hx : Rep w C x v := h3 0 (by simp)
    have hy : Rep w C y u := h4 0 (by simp)
    split at h
    · rename_i he
      exact ⟨true, eqCell_v he hx hy, fun e => (by cases e), fun _ => eqCells_v h (by simpa using h1) (by simpa using h2) (fun j hj => h3 (j + 1) (by simpa using hj)) (fun j hj => h4 (j + 1) (by simpa using hj))⟩
    · rename_i he
      cases h
      exact ⟨false, eqCell_v he hx hy, fun _ => rfl, fun e => by cases e⟩
    · cases h
  | [], _ :: _, _, r, _, _, h, _, _, _, _ => by simp [eqCells] at h
  | [], [], _ :: _, r, _, _, h, _, _, _, _ => by simp [eqCells] at h
  | _ :: _, [], _, r, _, _, h, _, _, _, _ => by simp [eqCells] at h
  | _ :: _, _ :: _, [], r, _, _, h, _, _, _, _ => by simp [eqCells] at h
  | _ :: _, _ :: _, _ :: _, r, [], _, h, h1, _, _, _ => by simp at h1
  | _ :: _, _ :: _, _ :: _, r, _ :: _, [], h, _, h2, _, _ => by simp at h2
theorem EqVs.val : ∀ {ks : List TK} {vs us : List Value}, EqVs ks vs us true → vs = us
  | [], [], [], h => rfl
  | t :: ts, x :: xs, y :: ys, h => by
    obtain ⟨q, h1, h2, h3⟩ := h
    cases q with
    | false => cases h2 rfl
    | true => rw [h1.val, EqVs.val (h3 rfl)]
  | [], _ :: _, _, h => h.elim
  | [], [], _ :: _, h => h.elim
  | _ :: _, [], _, h => h.elim
  | _ :: _, _ :: _, [], h => h.elim
theorem eqCk_f {ti : TyI} {fs : Array Field} {j : Nat} (h : eqCk P ti fs j = true) : ∃ f, fs[j]? = some f ∧ f.name ≠ "_" ∧ f.offset = j ∧ basicTy P f.type (ti.eq.getD j .other) = true := by
  unfold eqCk at h
  split at h
  · rename_i f hf
    simp only [Bool.and_eq_true, bne_iff_ne, beq_iff_eq] at h
    exact ⟨f, hf, h.1.1, h.1.2, h.2⟩
  · cases h
theorem run_eqFields {ti : TyI} {fs : Array Field} {vs us : Array Value} (hv : vs.size = fs.size) (hu : us.size = fs.size) (he : ∀ j, j < fs.size → eqCk P ti fs j = true) (n : Nat) (w : World) :
    ∀ (m j : Nat) {r : Bool}, m + j = fs.size → EqVs (ti.eq.drop j) (vs.toList.drop j) (us.toList.drop j) r → (Op.eqFields (n + 1) vs us (fs.toList.drop j)).run P w = .ok r w := by
  intro m
  induction m with
  | zero =>
    intro j r hj h
    have e1 : fs.toList.drop j = [] := List.drop_eq_nil_of_le (by simp; omega)
    have e2 : vs.toList.drop j = [] := List.drop_eq_nil_of_le (by simp; omega)
    have e3 : us.toList.drop j = [] := List.drop_eq_nil_of_le (by simp; omega)
    rw [e2, e3] at h
    rw [e1]
    cases hk : ti.eq.drop j with
    | nil => rw [hk] at h; have h : r = true := h; subst h; rfl
    | cons _ _ => rw [hk] at h; exact h.elim
  | succ m ih =>
    intro j r hj h
    obtain ⟨f, h1, h2, h3, h4⟩ := eqCk_f (he j (by omega))
    have hjf : j < fs.toList.length := by simp; omega
    have hjv : j < vs.toList.length := by simp; omega
    have hju : j < us.toList.length := by simp; omega
    rw [List.drop_eq_getElem_cons hjv, List.drop_eq_getElem_cons hju] at h
    cases hk : ti.eq.drop j with
    | nil => rw [hk] at h; exact h.elim
    | cons k ks =>
      rw [hk] at h
      obtain ⟨q, a1, a2, a3⟩ := h
      have hkk : ti.eq.getD j .other = k := by
        have : (ti.eq.drop j)[0]? = some k := by rw [hk]; rfl
        rw [List.getElem?_drop] at this
        simp at this
        simp [List.getD_eq_getElem?_getD, this]
      have hks : ti.eq.drop (j + 1) = ks := by
        rw [← List.tail_drop, hk]; rfl
      rw [List.drop_eq_getElem_cons hjf]
      have hf : fs.toList[j] = f := by
        have := h1; rw [Array.getElem?_eq_getElem (by simpa using hjf)] at this
        simpa using this
      rw [hf]
      unfold Op.eqFields
      rw [if_pos h2]
      have p1 : (part f.type vs f.offset).run P w = .ok vs.toList[j] w := run_part_basic h4 (by rw [h3]; simp at hjv; simp [hjv]) w
      have p2 : (part f.type us f.offset).run P w = .ok us.toList[j] w := run_part_basic h4 (by rw [h3]; simp at hju; simp [hju]) w
      rw [hkk] at h4
      simp only [Sem.run_bind, p1, p2, Result.andThen, run_equalIn_v h4 a1]
      cases q with
      | false => rw [a2 rfl]; rfl
      | true =>
        simp only [Bool.not_true, Bool.false_eq_true, if_false]
        exact ih (j + 1) (by omega) (by rw [hks]; exact a3 rfl)
theorem run_eqItems {e : TypeId} {fi : TypeInfo} (hi : P.info? e = some fi) (h1 : fi.size = 1) {vs us : Array Value} (n : Nat) (w : World) :
    ∀ (m j : Nat) {ks : List TK} {r : Bool}, (∀ k, k ∈ ks → basicTy P e k = true) → m + j ≤ vs.size → m + j ≤ us.size → EqVs ks ((vs.toList.drop j).take m) ((us.toList.drop j).take m) r →
      (Op.eqItems (n + 1) e (P.cellsOf e) vs us (List.range' j m)).run P w = .ok r w := by
  have hc : P.cellsOf e = 1 := by simp [Program.cellsOf, hi, h1]
  intro m
  induction m with
  | zero =>
    intro j ks r hk hj hj2 h
    cases ks with
    | nil => have h : r = true := h; subst h; rfl
    | cons _ _ => exact h.elim
  | succ m ih =>
    intro j ks r hk hj hj2 h
    have hjv : j < vs.toList.length := by simp; omega
    have hju : j < us.toList.length := by simp; omega
    rw [List.drop_eq_getElem_cons hjv, List.drop_eq_getElem_cons hju, List.take_succ_cons, List.take_succ_cons] at h
    cases ks with
    | nil => exact h.elim
    | cons k ks =>
      obtain ⟨q, a1, a2, a3⟩ := h
      have h4 := hk k (by simp)
      have p1 : (part e vs (j * P.cellsOf e)).run P w = .ok vs.toList[j] w := run_part_basic h4 (by rw [hc]; simp at hjv; simp [hjv]) w
      have p2 : (part e us (j * P.cellsOf e)).run P w = .ok us.toList[j] w := run_part_basic h4 (by rw [hc]; simp at hju; simp [hju]) w
      rw [List.range'_succ]
      unfold Op.eqItems
      simp only [Sem.run_bind, p1, p2, Result.andThen, run_equalIn_v h4 a1]
      cases q with
      | false => rw [a2 rfl]; rfl
      | true =>
        simp only [Bool.not_true, Bool.false_eq_true, if_false]
        exact ih (j + 1) (fun k hk' => hk k (by simp [hk'])) (by omega) (by omega) (a3 rfl)
theorem size_one {t : TypeId} {ti : TyI} {i : TypeInfo} {z : Value} {n e : Nat} (F : TyF P t ti i z (.array n e)) (h0 : 0 < n) (hn : n = ti.sz) (hb : ∀ k, k ∈ ti.eq → basicTy P e k = true) (hl : ti.eq.length = n) : ∃ fi, P.info? e = some fi ∧ fi.size = 1 := by
  cases hq : ti.eq with
  | nil => rw [hq] at hl; simp at hl; omega
  | cons k ks =>
    obtain ⟨fi, d, h1, _, h2, _⟩ := basicTy_f (hb k (by rw [hq]; simp))
    exact ⟨fi, h1, h2⟩
/-- '==' of two structs or arrays all of whose parts are basic. -/
theorem run_equalIn_agg_v {t : TypeId} {ti : TyI} {i : TypeInfo} {z : Value} {d : TypeDesc} (F : TyF P t ti i z d) (ha : ti.agg = true) (hq : someB ti.eq = true) {vs us : Array Value} (hv : vs.size = ti.sz) (hu : us.size = ti.sz)
    {r : Bool} (h : EqVs ti.eq vs.toList us.toList r) (n : Nat) (w : World) : (Op.equalIn (n + 2) t (.agg vs) (.agg us)).run P w = .ok r w := by
  have hd := F.desc
  have hund := F.und
  have hnb : nilB ti.eq = false := by cases he : ti.eq with
    | nil => rw [he] at hq; cases hq
    | cons _ _ => rfl
  have hpos : 0 < ti.eq.length := by cases he : ti.eq with
    | nil => rw [he] at hq; cases hq
    | cons _ _ => simp
  cases d with
  | struct fs =>
    simp only [descCk, Bool.and_eq_true, Bool.or_eq_true, hnb, eqS, Bool.not_eq_true', beq_iff_eq, List.all_eq_true, List.mem_range] at hd
    have hE := hd.2.resolve_left (by simp)
    obtain ⟨⟨⟨⟨e1, e2⟩, e3⟩, e4⟩, e5⟩ := hE
    have hfo : P.fieldsOf t = fs := by simp [Program.fieldsOf, hund]
    rw [run_equalIn_struct w (n + 1) t vs us (by rw [hfo]; exact hund) e1, hfo]
    exact run_eqFields (ti := ti) (fs := fs) (by omega) (by omega) e5 n w fs.size 0 (by omega) h
  | array m e =>
    simp only [descCk, Bool.and_eq_true, Bool.or_eq_true, hnb, eqE, Bool.not_eq_true', beq_iff_eq, List.all_eq_true, List.mem_range] at hd
    have hE := hd.1.2.resolve_left (by simp)
    obtain ⟨⟨⟨e1, e2⟩, e3⟩, e4⟩ := hE
    obtain ⟨fi, g1, g2⟩ := size_one F (by omega) e3 e4 e2
    rw [run_equalIn_array w (n + 1) vs us hund g1, List.range_eq_range']
    refine run_eqItems g1 g2 n w m 0 e4 (by omega) (by omega) ?_
    rw [List.drop_zero, List.drop_zero, List.take_of_length_le (by simp; omega), List.take_of_length_le (by simp; omega)]
    exact h
  | _ => simp_all [descCk]
theorem TyF.eqf {t : TypeId} {ti : TyI} {i : TypeInfo} {z : Value} {d : TypeDesc} (F : TyF P t ti i z d) (ha : ti.agg = true) (hq : someB ti.eq = true) : ti.eq.length = ti.sz ∧ P.eqGuardType P.depth t = false := by
  have hd := F.desc
  have hnb : nilB ti.eq = false := by cases he : ti.eq with
    | nil => rw [he] at hq; cases hq
    | cons _ _ => rfl
  cases d with
  | struct fs =>
    simp only [descCk, Bool.and_eq_true, Bool.or_eq_true, hnb, eqS, Bool.not_eq_true', beq_iff_eq, List.all_eq_true, List.mem_range] at hd
    have hE := hd.2.resolve_left (by simp)
    exact ⟨by omega, hE.1.1.1.2⟩
  | array m e =>
    simp only [descCk, Bool.and_eq_true, Bool.or_eq_true, hnb, eqE, Bool.not_eq_true', beq_iff_eq, List.all_eq_true, List.mem_range] at hd
    have hE := hd.1.2.resolve_left (by simp)
    exact ⟨by omega, hE.1.1.1⟩
  | _ => simp_all [descCk]
theorem run_checkKey_basic {t : TypeId} {k : TK} (ht : basicTy P t k = true) (em : Bool) (v : Value) (n : Nat) (w : World) : (Instr.checkKey em (n + 1) t v).run P w = .ok () w := by
  obtain ⟨i, d, hi, hd, _, hk, rfl⟩ := basicTy_f ht
  unfold Instr.checkKey
  simp only [Sem.run_bind, run_underlying hd, Result.andThen]
  cases d <;> first | rfl | (simp [kindD, basicK] at hk)
theorem run_checkKey_agg {t : TypeId} {ti : TyI} {i : TypeInfo} {z : Value} {d : TypeDesc} (F : TyF P t ti i z d) (ha : ti.agg = true) (hq : someB ti.eq = true) {vs : Array Value} (hv : vs.size = ti.sz) (em : Bool) (n : Nat) (w : World) :
    (Instr.checkKey em (n + 2) t (.agg vs)).run P w = .ok () w := by
  have hd := F.desc
  have hund := F.und
  have hnb : nilB ti.eq = false := by cases he : ti.eq with
    | nil => rw [he] at hq; cases hq
    | cons _ _ => rfl
  have hpos : 0 < ti.eq.length := by cases he : ti.eq with
    | nil => rw [he] at hq; cases hq
    | cons _ _ => simp
  cases d with
  | struct fs =>
    simp only [descCk, Bool.and_eq_true, Bool.or_eq_true, hnb, eqS, Bool.not_eq_true', beq_iff_eq, List.all_eq_true, List.mem_range] at hd
    have hE := hd.2.resolve_left (by simp)
    obtain ⟨⟨⟨⟨e1, e2⟩, e3⟩, e4⟩, e5⟩ := hE
    rw [Instr.checkKey]
    simp only [Sem.run_bind, run_underlying hund, Result.andThen_ok]
    rw [← Array.forIn_toList]
    have each : ∀ f, f ∈ fs.toList → ∃ j, j < vs.size ∧ f.name ≠ "_" ∧ f.offset = j ∧ ∃ k, basicTy P f.type k = true := fun f hf => by
      obtain ⟨j, hj, rfl⟩ := List.getElem_of_mem hf
      simp at hj
      obtain ⟨f', a1, a2, a3, a4⟩ := eqCk_f (e5 j hj)
      have : f' = fs.toList[j] := by have := a1; simp [hj] at this; simp [this]
      subst this
      exact ⟨j, by omega, a2, a3, _, a4⟩
    generalize fs.toList = L at each
    induction L with
    | nil => simp
    | cons f L ih =>
      obtain ⟨j, hj, hn, ho, k, hb⟩ := each f (by simp)
      have p1 : (part f.type vs f.offset).run P w = .ok vs[j] w := run_part_basic hb (by rw [ho]; simp [hj]) w
      have p2 := run_checkKey_basic hb em vs[j] n w
      simp only [List.forIn_cons, Sem.run_bind, hn, ne_eq, not_false_eq_true, if_true, Result.andThen_ok, p1, p2, Sem.run_pure]
      exact ih (fun y hy => each y (by simp [hy]))
  | array m e =>
    simp only [descCk, Bool.and_eq_true, Bool.or_eq_true, hnb, eqE, Bool.not_eq_true', beq_iff_eq, List.all_eq_true, List.mem_range] at hd
    have hE := hd.1.2.resolve_left (by simp)
    obtain ⟨⟨⟨e1, e2⟩, e3⟩, e4⟩ := hE
    obtain ⟨fi, g1, g2⟩ := size_one F (by omega) e3 e4 e2
    obtain ⟨k, hk⟩ : ∃ k, k ∈ ti.eq := by cases hq : ti.eq with
      | nil => rw [hq] at hpos; simp at hpos
      | cons k ks => exact ⟨k, by simp⟩
    have hb := e4 k hk
    have hc : P.cellsOf e = 1 := by simp [Program.cellsOf, g1, g2]
    rw [Instr.checkKey]
    simp only [Sem.run_bind, run_underlying hund, Result.andThen_ok]
    simp only [Std.Legacy.Range.forIn_eq_forIn_range', Std.Legacy.Range.size, Nat.sub_zero, Nat.add_one_sub_one, Nat.div_one]
    have each : ∀ j, j ∈ List.range' 0 m → j < vs.size := fun j hj => by
      have := List.mem_range'_1.1 hj; omega
    generalize List.range' 0 m = is at each
    induction is with
    | nil => simp
    | cons j is ih =>
      have hj := each j (by simp)
      have p1 : (part e vs (j * P.cellsOf e)).run P w = .ok vs[j] w := run_part_basic hb (by rw [hc]; simp [hj]) w
      have p2 := run_checkKey_basic hb em vs[j] n w
      simp only [List.forIn_cons, Sem.run_bind, run_sizeOf w g1, Result.andThen_ok, p1, p2, Sem.run_pure]
      exact ih (fun y hy => each y (by simp [hy]))
  | _ => simp_all [descCk]
/-! ### Keys -/
/-- Two keys, as values. -/
def KeyV (ks : List TK) (v u : Value) (r : Bool) : Prop := match v, u with
  | .agg vs, .agg us => vs.size = ks.length ∧ us.size = ks.length ∧ EqVs ks vs.toList us.toList r
  | v, u => ∃ t, ks = [t] ∧ EqV t v u r
theorem eqKey_v {ks : List TK} {x y : AV} {r : Bool} {v u : Value} (h : eqKey ks x y = some r) (hx : Rep w C x v) (hy : Rep w C y u) : KeyV ks v u r := by
  unfold eqKey at h
  split at h
  · cases hx with
    | agg vs hs h1 hr =>
      cases hy with
      | agg us hs' h1' hr' =>
        split at h
        case isFalse => cases h
        rename_i hl
        refine ⟨by omega, by omega, ?_⟩
        exact eqCells_v h (by simpa using hs) (by simpa using hs') (fun j hj => by simpa [g, Array.getD_eq_getD_getElem?, List.getD_eq_getElem?_getD] using hr j hj) (fun j hj => by simpa [g, Array.getD_eq_getD_getElem?, List.getD_eq_getElem?_getD] using hr' j hj)
  · split at h
    · have e := eqCell_v h hx hy
      unfold KeyV
      split
      · exfalso; unfold EqV at e; split at e <;> simp_all
      · exact ⟨_, rfl, e⟩
    · cases h
theorem KeyV.val {ks : List TK} {v u : Value} (h : KeyV ks v u true) : v = u := by
  unfold KeyV at h
  split at h
  · rename_i vs us
    have := h.2.2.val
    rw [show vs = us from Array.ext' this]
  · obtain ⟨t, _, h⟩ := h
    exact h.val
theorem EqV.bits {k : TK} {v u : Value} {r : Bool} (h : EqV k v u r) (n : Nat) : Instr.sameBits n v v = true := by
  unfold EqV at h
  split at h <;> first | (cases h; done) | (cases n <;> simp [Instr.sameBits, beq_toListBytes])
theorem EqVs.bits : ∀ {ks : List TK} {vs us : List Value}, EqVs ks vs us true → ∀ n x, x ∈ vs → Instr.sameBits n x x = true
  | [], [], [], h, n, x, hx => by cases hx
  | t :: ts, v :: vs, u :: us, h, n, x, hx => by
    obtain ⟨q, h1, h2, h3⟩ := h
    cases q with
    | false => cases h2 rfl
    | true =>
      rcases List.mem_cons.1 hx with rfl | hx
      · exact h1.bits n
      · exact EqVs.bits (h3 rfl) n x hx
  | [], _ :: _, _, h, n, x, hx => h.elim
  | [], [], _ :: _, h, n, x, hx => h.elim
  | _ :: _, [], _, h, n, x, hx => h.elim
  | _ :: _, _ :: _, [], h, n, x, hx => h.elim
theorem KeyV.stays {ks : List TK} {v u : Value} (h : KeyV ks v u true) (w : World) : (Instr.keyThatStays u v).run P w = .ok v w := by
  have e := h.val
  subst e
  have : Instr.sameBits 10000 v v = true := by
    have other : (∃ t, ks = [t] ∧ EqV t v v true) → Instr.sameBits 10000 v v = true := fun ⟨t, _, h⟩ => h.bits 10000
    cases v with
    | agg vs =>
      have h : EqVs ks vs.toList vs.toList true := h.2.2
      have hb := h.bits 9999
      show ((vs.size == vs.size) && (vs.toList.zip vs.toList).all fun (x, y) => Instr.sameBits 9999 x y) = true
      simp only [beq_self_eq_true, Bool.true_and, List.all_eq_true]
      rintro ⟨x, y⟩ hxy
      have h1 : ∀ (l : List Value), (x, y) ∈ l.zip l → x = y ∧ x ∈ l := by
        intro l
        induction l with
        | nil => simp
        | cons a l ih =>
          intro h
          rw [List.zip_cons_cons] at h
          rcases List.mem_cons.1 h with e | h
          · cases e; exact ⟨rfl, by simp⟩
          · obtain ⟨e, m⟩ := ih h; exact ⟨e, by simp [m]⟩
      obtain ⟨rfl, hm⟩ := h1 _ hxy
      exact hb x hm
    | _ => exact other h
  simp [Instr.keyThatStays, this]
/-- What the entries' keys come to. -/
def FindV (ks : List TK) (v : Value) : List MapEntry → Nat → Option Nat → Prop
  | [], _, r => r = none
  | e :: es, i, r => ∃ q, KeyV ks v e.key q ∧ (q = true → r = some i) ∧ (q = false → FindV ks v es (i + 1) r)
theorem findA_v {ks : List TK} {key : AV} {v : Value} (hv : Rep w C key v) : ∀ {es : List (AV × AV)} {ms : List MapEntry} {i : Nat} {r : Option Nat}, findA ks key es i = some r → ms.length = es.length →
    (∀ j, j < es.length → ∃ m, ms[j]? = some m ∧ Rep w C (es.getD j (.any, .any)).1 m.key) → FindV ks v ms i r
  | [], ms, i, r, h, hl, hm => by
    obtain rfl := List.eq_nil_of_length_eq_zero hl
    simp only [findA, Option.some.injEq] at h
    exact h.symm
  | (k, x) :: es, m :: ms, i, r, h, hl, hm => by
    obtain ⟨m', h1, h2⟩ := hm 0 (by simp)
    simp at h1; subst h1
    simp only [findA] at h
    have rest : ∀ j, j < es.length → ∃ m, ms[j]? = some m ∧ Rep w C (es.getD j (.any, .any)).1 m.key := fun j hj => by
      obtain ⟨m', h1, h2⟩ := hm (j + 1) (by simpa using hj)
      exact ⟨m', by simpa using h1, h2⟩
    split at h
    · rename_i he; cases h; exact ⟨true, eqKey_v he hv h2, fun _ => rfl, fun e => by cases e⟩
    · rename_i he; exact ⟨false, eqKey_v he hv h2, fun e => (by cases e), fun _ => findA_v hv h (by simpa using hl) rest⟩
    · cases h
  | _ :: _, [], i, r, h, hl, hm => by simp at hl
theorem FindV.lt {ks : List TK} {v : Value} : ∀ {ms : List MapEntry} {i : Nat} {r : Option Nat}, FindV ks v ms i r → ∀ j, r = some j → ∃ m, i ≤ j ∧ ms[j - i]? = some m ∧ KeyV ks v m.key true
  | [], i, r, h, j, hj => by rw [hj] at h; cases (show some j = none from h)
  | e :: es, i, r, h, j, hj => by
    obtain ⟨q, h1, h2, h3⟩ := h
    cases q with
    | true =>
      have := h2 rfl
      rw [hj] at this; cases this
      exact ⟨e, Nat.le_refl _, by simp, h1⟩
    | false =>
      obtain ⟨m, a, b, c⟩ := FindV.lt (h3 rfl) j hj
      exact ⟨m, by omega, by rw [show j - i = j - (i + 1) + 1 from by omega]; simpa using b, c⟩
theorem sameNow_v {d : TypeDesc} {v u : Value} {q : Bool} (h : EqV (kindD d) v u q) (hb : basicK (kindD d) = true) : Instr.sameNow d v u = some q := by
  unfold EqV at h
  split at h
  · rename_i k0 k1 a k2 b hk
    obtain ⟨rfl, rfl⟩ := h
    cases d <;> simp [kindD] at hk
    simp [Instr.sameNow]
  · rename_i a b hk
    subst h
    cases d <;> simp [kindD] at hk
    simp [Instr.sameNow]
  · rename_i a b hk
    subst h
    cases d <;> simp [kindD] at hk
    simp [Instr.sameNow, beq_toListBytes]
  · cases h
theorem run_find_basic {t : TypeId} {k : TK} (ht : basicTy P t k = true) {v : Value} (hnv : ∀ vs, v ≠ .agg vs) (w : World) : ∀ {ms : List MapEntry} {i : Nat} {r : Option Nat}, FindV [k] v ms i r →
    ∃ d, P.underlying t = some d ∧ Instr.findNow d v ms i = some (r.bind fun j => (ms[j - i]?).map fun m => (j, m.val)) := by
  obtain ⟨fi, d, hi, hd, _, hk, rfl⟩ := basicTy_f ht
  intro ms
  induction ms with
  | nil => intro i r h; have h : r = none := h; subst h; exact ⟨d, hd, rfl⟩
  | cons e ms ih =>
    intro i r h
    have h' := h
    obtain ⟨q, h1, h2, h3⟩ := h
    have h4 : EqV (kindD d) v e.key q := by
      unfold KeyV at h1
      split at h1
      · exact absurd rfl (hnv _)
      · obtain ⟨t, e1, e2⟩ := h1
        simp only [List.cons.injEq, and_true] at e1
        rw [e1]; exact e2
    have h5 := sameNow_v h4 hk
    refine ⟨d, hd, ?_⟩
    unfold Instr.findNow
    cases q with
    | true =>
      rw [h5, h2 rfl]
      simp
    | false =>
      obtain ⟨d', g1, g2⟩ := ih (h3 rfl)
      rw [hd] at g1; cases g1
      rw [h5]
      simp only
      rw [g2]
      cases r with
      | none => rfl
      | some j =>
        obtain ⟨m, a, b, c⟩ := FindV.lt (h3 rfl) j rfl
        simp only [Option.bind_some, Option.some.injEq]
        rw [show j - i = j - (i + 1) + 1 from by omega]
        simp
theorem run_asking {t : TypeId} {ti : TyI} {i : TypeInfo} {z : Value} {d : TypeDesc} (F : TyF P t ti i z d) (ha : ti.agg = true) (hq : someB ti.eq = true) {vs : Array Value} (hv : vs.size = ti.sz) (w : World) :
    ∀ {ms : List MapEntry} {i : Nat} {r : Option Nat}, FindV ti.eq (.agg vs) ms i r → (Instr.findAsking t (.agg vs) ms i).run P w = .ok (r.bind fun j => (ms[j - i]?).map fun m => (j, m.val)) w
  | [], i, r, h => by have h : r = none := h; subst h; rfl
  | e :: ms, i, r, h => by
    obtain ⟨q, h1, h2, h3⟩ := h
    obtain ⟨us, h4, h5, h1⟩ : ∃ us, e.key = .agg us ∧ us.size = ti.sz ∧ EqVs ti.eq vs.toList us.toList q := by
      unfold KeyV at h1
      split at h1
      · rename_i vs' us hv' hu'; cases hv'; exact ⟨us, hu', by rw [← (F.eqf ha hq).1]; exact h1.2.1, h1.2.2⟩
      · obtain ⟨t, _, h1⟩ := h1; unfold EqV at h1; split at h1 <;> simp_all
    have run := run_equalIn_agg_v F ha hq hv h5 h1 9998 w
    unfold Instr.findAsking
    have run' : (Op.equal t (.agg vs) (.agg us)).run P w = .ok q w := run
    rw [h4]
    simp only [Sem.run_bind, run', Result.andThen]
    cases q with
    | true => rw [h2 rfl]; simp
    | false =>
      simp only [Bool.false_eq_true, if_false]
      rw [run_asking F ha hq hv w (h3 rfl)]
      cases r with
      | none => rfl
      | some j =>
        obtain ⟨m, a, b, c⟩ := FindV.lt (h3 rfl) j rfl
        simp only [Option.bind_some]
        rw [show j - i = j - (i + 1) + 1 from by omega]
        simp
end
end Am
