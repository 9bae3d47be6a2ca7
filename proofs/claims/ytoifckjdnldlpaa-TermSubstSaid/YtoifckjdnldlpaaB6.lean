/- append. -/
import Derived.Test.YtoifckjdnldlpaaB5
import Derived.Laws.AppendOwn
set_option linter.unusedVariables false
set_option linter.unusedSimpArgs false
namespace Am
open Go
section
variable {P : Program} {cf : Cfg} {fz : Fz} {b : Base} {env : Env} {loc : Loc} {h : Heap} {a : Act} {w : World} {C : Cx} {β : Nat → Option Nat} {k : K} {o : Oper} {Q : Exit → Act → World → Prop}
/-- A row of cells that tells elements. -/
structure Flat (w : World) (C : Cx) (sz : Nat) (els : List (List AV)) (cs : List Value) : Prop where
  len : cs.length = els.length * sz
  one : ∀ u ∈ cs, one u = true
  szs : ∀ i, i < els.length → (els.getD i []).length = sz
  rep : ∀ i j, i < els.length → j < sz → ∃ u, cs[i * sz + j]? = some u ∧ Rep w C (g (els.getD i []) j) u
theorem mul_lt_of {i n sz j : Nat} (hi : i < n) (hj : j < sz) : i * sz + j < n * sz := by
  have : (i + 1) * sz ≤ n * sz := Nat.mul_le_mul_right _ hi
  rw [Nat.add_mul, Nat.one_mul] at this
  omega
theorem getD_app_l {α : Type} {l l' : List α} {i : Nat} {d : α} (h : i < l.length) : (l ++ l').getD i d = l.getD i d := by
  simp [List.getD_eq_getElem?_getD, List.getElem?_append_left h]
theorem getD_app_r {α : Type} {l l' : List α} {i : Nat} {d : α} (h : l.length ≤ i) : (l ++ l').getD i d = l'.getD (i - l.length) d := by
  simp [List.getD_eq_getElem?_getD, List.getElem?_append_right h]
theorem Flat.nil {sz : Nat} : Flat w C sz [] [] := ⟨by simp, by simp,  fun i h => by simp at h, fun i j h => by simp at h⟩
theorem Flat.append {sz : Nat} {els els' : List (List AV)} {cs cs' : List Value} (A : Flat w C sz els cs) (B : Flat w C sz els' cs') : Flat w C sz (els ++ els') (cs ++ cs') where
  len := by rw [List.length_append, List.length_append, A.len, B.len, Nat.add_mul]
  one u hu := by
    rcases List.mem_append.1 hu with h | h
    · exact A.one u h
    · exact B.one u h
  szs i hi := by
    by_cases h : i < els.length
    · rw [getD_app_l h]; exact A.szs i h
    · rw [getD_app_r (by omega)]
      exact B.szs _ (by rw [List.length_append] at hi; omega)
  rep i j hi hj := by
    by_cases h : i < els.length
    · rw [getD_app_l h]
      obtain ⟨u, h1, h2⟩ := A.rep i j h hj
      exact ⟨u, by rw [List.getElem?_append_left (by rw [A.len]; exact mul_lt_of h hj)]; exact h1, h2⟩
    · rw [getD_app_r (by omega)]
      obtain ⟨u, h1, h2⟩ := B.rep (i - els.length) j (by rw [List.length_append] at hi; omega) hj
      have hm : (i - els.length) * sz + els.length * sz = i * sz := by rw [← Nat.add_mul]; congr 1; omega
      exact ⟨u, by rw [List.getElem?_append_right (by rw [A.len]; omega), A.len, show i * sz + j - els.length * sz = (i - els.length) * sz + j by omega]; exact h1, h2⟩
theorem Flat.of {sz : Nat} {els : List (List AV)} (vs : Nat → Nat → Value) (h1 : ∀ i, i < els.length → (els.getD i []).length = sz) (h2 : ∀ i j, i < els.length → j < sz → Am.one (vs i j) = true ∧ Rep w C (g (els.getD i []) j) (vs i j)) :
    Flat w C sz els ((List.range (els.length * sz)).map fun q => vs (q / sz) (q % sz)) where
  len := by simp
  one u hu := by
    simp only [List.mem_map, List.mem_range] at hu
    obtain ⟨q, hq, rfl⟩ := hu
    have hs : 0 < sz := by
      rcases Nat.eq_zero_or_pos sz with h | h
      · rw [h] at hq; simp at hq
      · exact h
    exact (h2 _ _ ((Nat.div_lt_iff_lt_mul hs).2 hq) (Nat.mod_lt _ hs)).1
  szs := h1
  rep i j hi hj := by
    have hs : 0 < sz := by omega
    refine ⟨vs i j, ?_, (h2 i j hi hj).2⟩
    rw [List.getElem?_map, List.getElem?_range (mul_lt_of hi hj)]
    have e1 : (i * sz + j) / sz = i := by rw [Nat.mul_comm, Nat.mul_add_div hs, Nat.div_eq_of_lt hj, Nat.add_zero]
    have e2 : (i * sz + j) % sz = j := by rw [Nat.mul_comm, Nat.mul_add_mod, Nat.mod_eq_of_lt hj]
    simp [e1, e2]
theorem Flat.mono {w' : World} {C' : Cx} {sz : Nat} {els : List (List AV)} {cs : List Value} (A : Flat w C sz els cs) (hr : ∀ x v, Rep w C x v → Rep w' C' x v) : Flat w' C' sz els cs :=
  ⟨A.len, A.one, A.szs, fun i j hi hj => by obtain ⟨u, h1, h2⟩ := A.rep i j hi hj; exact ⟨u, h1, hr _ _ h2⟩⟩
theorem Flat.arel {sz n blk : Nat} {els : List (List AV)} {cs rest : List Value} {e : TypeId} (A : Flat w C sz els cs) (hb : w.heap[blk]? = some (.cells (cs ++ rest).toArray e (0, 0))) (hn : n = (cs ++ rest).length) : ARel w C ⟨blk, sz, n⟩ sz els := by
  refine ⟨rfl, A.szs, ?_, _, _, hb, by simp [hn], fun i j hi hj => ?_⟩
  · rw [hn, List.length_append, A.len]; exact Nat.le_add_right _ _
  · obtain ⟨u, h1, h2⟩ := A.rep i j hi hj
    refine ⟨u, ?_, A.one u (List.mem_of_getElem? h1), h2⟩
    have := (List.getElem?_eq_some_iff.1 h1).1
    rw [List.getElem?_toArray, List.getElem?_append_left this]; exact h1

theorem ARel.flat {sz len : Nat} {els : List (List AV)} {c : Array Value} (hs : 0 < sz) (hl : len ≤ els.length) (hn : len * sz ≤ c.size) (h1 : ∀ i, i < els.length → (els.getD i []).length = sz)
    (h2 : ∀ i j, i < els.length → j < sz → ∃ v, c[i * sz + j]? = some v ∧ Am.one v = true ∧ Rep w C ((els.getD i []).getD j .any) v) : Flat w C sz (els.take len) (c.toList.take (len * sz)) := by
  have hlen : (els.take len).length = len := by simp; omega
  have hget : ∀ i, i < len → (els.take len).getD i [] = els.getD i [] := fun i hi => by simp [List.getD_eq_getElem?_getD, List.getElem?_take, hi]
  refine ⟨by rw [hlen]; simp; omega, fun u hu => ?_, fun i hi => ?_, fun i j hi hj => ?_⟩
  · obtain ⟨q, hq⟩ := List.getElem?_of_mem hu
    have hlt := (List.getElem?_eq_some_iff.1 hq).1
    simp only [List.length_take] at hlt
    have hlt : q < len * sz := by omega
    rw [List.getElem?_take, if_pos hlt, Array.getElem?_toList] at hq
    obtain ⟨v, a1, a2, a3⟩ := h2 (q / sz) (q % sz) (Nat.lt_of_lt_of_le ((Nat.div_lt_iff_lt_mul hs).2 hlt) hl) (Nat.mod_lt _ hs)
    rw [Nat.div_add_mod' q sz, hq] at a1
    cases a1; exact a2
  · rw [hlen] at hi; rw [hget i hi]; exact h1 i (by omega)
  · rw [hlen] at hi; rw [hget i hi]
    obtain ⟨v, a1, a2, a3⟩ := h2 i j (by omega) hj
    exact ⟨v, by rw [List.getElem?_take, if_pos (mul_lt_of hi hj), Array.getElem?_toList]; exact a1, a3⟩
/-- A slice, read: its elements' cells. -/
def Src (P : Program) (w : World) (sz : Nat) (v : Value) (n : Nat) (cs : List Value) : Prop :=
  (∃ ao c, v = .slice ao n c) ∧ ∀ w', w'.heap = w.heap → (Builtin.firstCells sz n v).run P w' = .ok cs.toArray w'
theorem Src.nil {sz : Nat} {ao : Option Addr} {c : Nat} : Src P w sz (.slice ao 0 c) 0 [] := by
  refine ⟨⟨_, _, rfl⟩, fun w' _ => ?_⟩
  cases ao with
  | none => exact run_firstCells_none w' sz 0 0 c
  | some b => exact run_firstCells_some w' sz 0 b 0 c [] (by simp) (fun j v h => by cases h)
theorem Src.some {sz n bb oo c : Nat} {cs : List Value} (hl : cs.length = n * sz) (hc : ∀ q u, cs[q]? = some u → w.cell? ⟨bb, oo + q, none⟩ = some u) : Src P w sz (.slice (some ⟨bb, oo, none⟩) n c) n cs := by
  refine ⟨⟨_, _, rfl⟩, fun w' hw => ?_⟩
  refine run_firstCells_some w' sz n ⟨bb, oo, none⟩ n c cs hl (fun j v hj => ?_)
  rw [addr_add]
  exact (cell_congr (w := w) (w' := w') (by rw [hw]) _).trans (hc j v hj)
theorem srcA_elim {sz : Nat} {y : AV} {k : List (List AV) → Prop} {v : Value} (hs : 0 < sz) (HM : MRel w C h) (hy : Rep w C y v) (hk : srcA sz y h k) : ∃ ys cs, Src P w sz v ys.length cs ∧ Flat w C sz ys cs ∧ k ys := by
  unfold srcA at hk
  split at hk
  · obtain ⟨rfl, hk⟩ := hk
    cases hy with
    | rs0 => exact ⟨[], [], Src.nil, .nil, hk⟩
    | rs vs him hcap hsz hc hr =>
      refine ⟨_, _, Src.some (by simp) (fun q u hq => ?_), Flat.of vs hsz (fun i j hi hj => ⟨(hc i j hi hj).2, hr i j hi hj⟩), hk⟩
      have hlt := (List.getElem?_eq_some_iff.1 hq).1
      simp only [List.length_map, List.length_range] at hlt
      rw [List.getElem?_map, List.getElem?_range hlt] at hq
      cases hq
      have := (hc (q / _) (q % _) ((Nat.div_lt_iff_lt_mul hs).2 hlt) (Nat.mod_lt _ hs)).1
      rw [Nat.add_assoc, Nat.div_add_mod' q _] at this
      exact this
  · split at hk
    · rename_i id len _ z els hh
      obtain ⟨rfl, hle, hk⟩ := hk
      obtain ⟨ow, hmu, _, hsz, h1, h2, c, e, h3, h4, h5⟩ := HM.own _ _ hh
      cases hy with
      | os hm hl hn =>
        rw [hmu] at hm; cases hm
        have hlen : (els.take len).length = len := by simp; omega
        have hget : ∀ i, i < len → (els.take len).getD i [] = els.getD i [] := fun i hi => by simp [List.getD_eq_getElem?_getD, List.getElem?_take, hi]
        have hcell : ∀ i j, i < len → j < z → c[i * z + j]? = some (c.getD (i * z + j) undef) ∧ one (c.getD (i * z + j) undef) = true ∧ Rep w C (g (els.getD i []) j) (c.getD (i * z + j) undef) := fun i j hi hj => by
          obtain ⟨v, a1, a2, a3⟩ := h5 i j (by omega) hj
          have : c.getD (i * z + j) undef = v := by simp [Array.getD_eq_getD_getElem?, a1]
          rw [this]; exact ⟨a1, a2, a3⟩
        refine ⟨els.take len, _, ?_, Flat.of (fun i j => c.getD (i * z + j) undef) (fun i hi => ?_) (fun i j hi hj => ?_), hk⟩
        · rw [hlen]
          refine Src.some (by simp) (fun q u hq => ?_)
          have hlt := (List.getElem?_eq_some_iff.1 hq).1
          simp only [List.length_map, List.length_range] at hlt
          rw [List.getElem?_map, List.getElem?_range hlt] at hq
          cases hq
          show _ = some (c.getD (q / z * z + q % z) undef)
          rw [Nat.div_add_mod' q _, Nat.zero_add, cell_at h3]
          have := (hcell (q / _) (q % _) ((Nat.div_lt_iff_lt_mul hs).2 hlt) (Nat.mod_lt _ hs)).1
          rwa [Nat.div_add_mod' q _] at this
        · rw [hlen] at hi; rw [hget i hi]; exact h1 i (by omega)
        · rw [hlen] at hi; rw [hget i hi]; exact (hcell i j hi hj).2
    · cases hk
  · cases hy with
    | e0 => exact ⟨[], [], Src.nil, .nil, hk⟩
  · cases hk
/-- An own block takes another name. -/
theorem Ev.rename {w : World} {C : Cx} {h : Heap} (H : MRel w C h) {id N : Nat} {nd : Node} {ow : Own} (hn : h id = some nd) (ho : C.mu id = some ow) (hN : C.mu N = none) (hN' : h N = none) :
    ∃ C', C'.mu N = some ow ∧ C'.im = C.im ∧ Ev w C h w C' ((h.del id).set N nd) := by
  let C' : Cx := ⟨fun i => if i = N then some ow else C.mu i, C.im⟩
  have hmu : ∀ i o, C.mu i = some o → C'.mu i = some o := fun i o hi => by
    have : i ≠ N := fun e => by rw [e, hN] at hi; cases hi
    show (if i = N then _ else _) = _
    rw [if_neg this]; exact hi
  have hmu' : ∀ i, i ≠ N → C'.mu i = C.mu i := fun i hi => if_neg hi
  have hmuN : C'.mu N = some ow := if_pos rfl
  have hrep : ∀ x v, Rep w C x v → Rep w C' x v := fun x v hr => hr.mono hmu fun b hb => ⟨hb, rfl⟩
  have old : ∀ i n, ((h.del id).set N nd) i = some n → (i = N ∧ n = nd) ∨ (i ≠ N ∧ i ≠ id ∧ h i = some n) := fun i n hi => by
    by_cases e : i = N
    · subst e; rw [Heap.set_same] at hi; cases hi; exact .inl ⟨rfl, rfl⟩
    · rw [Heap.set_ne e] at hi
      by_cases e' : i = id
      · subst e'; rw [Heap.del_same] at hi; cases hi
      · rw [Heap.del_ne e'] at hi; exact .inr ⟨e, e', hi⟩
  obtain ⟨o1, ho1, hni, hrel⟩ := H.own id nd hn
  rw [ho] at ho1; cases ho1
  refine ⟨C', hmuN, rfl, ⟨hmu, fun _ h => h, fun _ h => .inl h, ?_, fun _ _ _ => rfl, Nat.le_refl _, rfl, rfl, rfl, ⟨?_, ?_, H.imlt, ?_⟩⟩⟩
  · rintro b ⟨i, n, o, h1, h2, rfl⟩
    rcases old i n h1 with ⟨rfl, rfl⟩ | ⟨e1, e2, h3⟩
    · rw [hmuN] at h2; cases h2; exact .inl ⟨id, _, _, hn, ho, rfl⟩
    · rw [hmu' i e1] at h2; exact .inl ⟨i, n, o, h3, h2, rfl⟩
  · intro i i' n n' o o' h1 h2 h3 h4 h5
    rcases old i n h1 with ⟨rfl, rfl⟩ | ⟨e1, e2, h6⟩ <;> rcases old i' n' h2 with ⟨e3, rfl⟩ | ⟨e3, e4, h7⟩
    · exact e3.symm
    · rw [hmuN] at h3; cases h3; rw [hmu' i' e3] at h4
      exact (e4 (H.inj i' id _ _ _ _ h7 hn h4 ho h5.symm)).elim
    · subst e3; rw [hmuN] at h4; cases h4; rw [hmu' i e1] at h3
      exact (e2 (H.inj i id _ _ _ _ h6 hn h3 ho h5)).elim
    · rw [hmu' i e1] at h3; rw [hmu' i' e3] at h4
      exact H.inj i i' _ _ _ _ h6 h7 h3 h4 h5
  · intro i n h1
    rcases old i n h1 with ⟨rfl, rfl⟩ | ⟨e1, e2, h3⟩
    · exact ⟨_, hmuN, hni, hrel.mono hrep rfl⟩
    · obtain ⟨o2, h4, h5, h6⟩ := H.own i n h3
      exact ⟨o2, by rw [hmu' i e1]; exact h4, h5, h6.mono hrep rfl⟩
  · obtain ⟨M, hM⟩ := H.fresh
    refine ⟨max M (N + 1), fun i hi => ?_⟩
    have e : i ≠ N := by omega
    rw [hmu' i e, Heap.set_ne e]
    refine ⟨(hM i (by omega)).1, ?_⟩
    by_cases e' : i = id
    · subst e'; exact Heap.del_same _ _
    · rw [Heap.del_ne e']; exact (hM i (by omega)).2
theorem run_append_g {t ty e : TypeId} {i : TypeInfo} {z : Value} (ht : P.underlying t = some (.slice e)) (hi : P.info? e = some i) (hz : i.zero = some z) {ao : Option Addr} {sLen sCap n : Nat} {x : Value} {olds news : List Value}
    (hs : Src P w i.size (.slice ao sLen sCap) sLen olds) (hx : Src P w i.size x n news) (hg : sCap < sLen + n) (h63 : ((sLen + n : Nat) : Int) ≤ 9223372036854775807) (hfit : Builtin.nextslicecap (sLen + n) sCap * i.bytes ≤ 281474976710656) :
    (Builtin.append_ #[t, t] ty #[.slice ao sLen sCap, x]).run P w = .ok (.slice (some ⟨w.heap.size, 0, none⟩) (sLen + n) (grownCap w (sLen + n) sCap e))
        (w.drew.alloc (.cells (olds.toArray ++ news.toArray ++ Builtin.zeroCells z.cells (grownCap w (sLen + n) sCap e - (sLen + n))) e)) := by
  obtain ⟨⟨xo, xc, rfl⟩, hf⟩ := hx
  have hn : ¬ (sLen + n ≤ sCap) := by omega
  have h63' : ¬ (9223372036854775807 < ((sLen : Int) + (n : Int))) := by omega
  have h48' : ¬ (281474976710656 < Builtin.nextslicecap (sLen + n) sCap * i.bytes) := by omega
  have hf := hf w.drew rfl
  have hfo := hs.2 w.drew rfl
  simp [Builtin.append_, run_underlying ht, Go.sizeOf, Go.typeInfo, Go.zeroValue, hi, hz, Builtin.lenOf, hn, h63', h48', Question.forced, hf, hfo, newRow, grownCap]
  congr 2
  apply Array.ext'
  simp [List.append_assoc]
theorem run_append_r {t ty e : TypeId} {i : TypeInfo} (ht : P.underlying t = some (.slice e)) (hi : P.info? e = some i)
    (g sLen sCap n : Nat) (cur : Array Value) {e' : TypeId} (hg : w.heap[g]? = some (.cells cur e' (0, 0))) {x : Value} {news : List Value} (hx : Src P w i.size x n news) (h1 : ∀ u ∈ news, u.oneCell' = true)
    (hroom : sLen + n ≤ sCap) (hfit : sLen * i.size + news.length ≤ cur.size) :
    (Builtin.append_ #[t, t] ty #[.slice (some ⟨g, 0, none⟩) sLen sCap, x]).run P w =
      .ok (.slice (some ⟨g, 0, none⟩) (sLen + n) sCap) (w.setRow g (cur.toList.take (sLen * i.size) ++ news ++ cur.toList.drop (sLen * i.size + news.length)).toArray) := by
  obtain ⟨⟨xo, xc, rfl⟩, hf⟩ := hx
  have hf := hf w rfl
  have hst := run_storeCells_at P g (sLen * i.size) e' news 0 cur w hg (by simpa using hfit) h1
  simp only [Nat.add_zero] at hst
  simp [Builtin.append_, run_underlying ht, Go.sizeOf, Go.typeInfo, hi, Builtin.lenOf, hroom, hf, Addr.add_lit, hst]
theorem run_append_0 {t ty e : TypeId} {i : TypeInfo} (ht : P.underlying t = some (.slice e)) (hi : P.info? e = some i) {ao : Option Addr} {x : Value} (hx : Src P w i.size x 0 []) :
    (Builtin.append_ #[t, t] ty #[.slice ao 0 0, x]).run P w = .ok (.slice ao 0 0) w := by
  obtain ⟨⟨xo, xc, rfl⟩, hf⟩ := hx
  have hf := hf w rfl
  cases ao <;> simp [Builtin.append_, run_underlying ht, Go.sizeOf, Go.typeInfo, hi, Builtin.lenOf, hf, storeCells]
theorem appA_elim {sz bytes : Nat} {x y : AV} {k : AV → Heap → Prop} (hk : appA sz bytes x y h k) : srcA sz y h fun ys =>
    (x = .e0 ∧ ys.length * bytes ≤ 140737488355328 ∧ (ys = [] → k .e0 h) ∧ (ys ≠ [] → ∀ id, h id = none → k (.os id ys.length) (h.set id (.arr sz ys)))) ∨
    ∃ id len els, x = .os id len ∧ h id = some (.arr sz els) ∧ len ≤ els.length ∧ (len + ys.length) * bytes ≤ 140737488355328 ∧
        ∀ id', (h.del id) id' = none → k (.os id' (len + ys.length)) ((h.del id).set id' (.arr sz (els.take len ++ ys))) := by
  have aux : ∀ {k k' : List (List AV) → Prop}, (∀ ys, k ys → k' ys) → srcA sz y h k → srcA sz y h k' := fun hi hs => by
    unfold srcA at hs ⊢
    split at hs
    · exact ⟨hs.1, hi _ hs.2⟩
    · split at hs
      · exact ⟨hs.1, hs.2.1, hi _ hs.2.2⟩
      · exact hs.elim
    · exact hi _ hs
    · exact hs.elim
  refine aux (fun ys hy => ?_) hk
  split at hy
  · exact .inl ⟨rfl, hy⟩
  · split at hy
    · rename_i hh
      obtain ⟨rfl, h1⟩ := hy
      exact .inr ⟨_, _, _, rfl, hh, h1⟩
    · exact hy.elim
  · exact hy.elim
theorem op_append (HT : TabOk P cf) (H : SR b env loc h a w C β) {args : Array Operand} {ts : Array TypeId} (ho : o.op = .call { callee := .builtin .append, args := args, argTypes := ts }) (hty : opTy cf o = true) (hk : aop P cf fz o env loc h k) : Oper.wp P o a w (Next b fz env loc k) Q := by
  simp only [opTy, ho] at hty
  simp only [aop, ho] at hk
  split at hk
  case h_2 => exact (show False from hk).elim
  rename_i x y t u hargs hts
  rw [hts] at hty
  simp only [both_eq] at hty
  obtain ⟨hp1, hp2, hp3⟩ := hty
  split at hk
  case h_2 => exact (show False from hk).elim
  rename_i htu
  have htu := Nat.eq_of_beq_eq_true htu
  subst htu
  obtain ⟨i, z, d, F⟩ := tyCheck_f (HT.2 t hp1)
  obtain ⟨ie, ze, de, FE⟩ := tyCheck_f (HT.2 _ hp2)
  have hu := F.slice HT hp2
  have hs := pos_lt hp2
  have hby := pos_lt hp3
  have ha : args = #[x, y] := by apply Array.ext'; simpa using hargs
  have h1 : ts = #[t, t] := by apply Array.ext'; simpa using hts
  obtain ⟨xv, hx, hk1⟩ := asAV_rep H hk
  obtain ⟨yv, hy, hk2⟩ := asAV_rep H hk1
  clear hk hk1
  generalize hsz : (cf.ty (cf.ty t).elem).sz = sz at *
  generalize hbb : (cf.ty (cf.ty t).elem).bytes = bytes at *
  obtain ⟨ys, cs, S1, FL, hk3⟩ := srcA_elim (P := P) hs H.ev.rel hy (appA_elim hk2)
  clear hk2
  have es : ie.size = sz := by rw [FE.size, hsz]
  have eb : ie.bytes = bytes := by rw [FE.bytes, hbb]
  have run : ∀ {r : Value} {w' : World}, (Builtin.append_ #[t, t] o.type #[a.eval x, a.eval y]).run P w = .ok r w' → (execOp a.eval o).run P w = .ok (.value r) w' := by
    intro r w' hn
    simp [execOp, ho, resolve, invoke, builtin, ha, h1, hn]
  obtain ⟨N, hN⟩ := H.ev.rel.fresh
  obtain ⟨hN1, hN2⟩ := hN N (Nat.le_refl _)
  have S1' := S1
  rw [← es] at S1'
  have grow : ∀ (els0 : List (List AV)) (olds : List Value) (sCap : Nat) (ao : Option Addr) (h0 : Heap), Ev w C h w C h0 → Src P w ie.size (.slice ao els0.length sCap) els0.length olds → Flat w C sz els0 olds →
      sCap < els0.length + ys.length → (els0.length + ys.length) * bytes ≤ 140737488355328 → a.eval x = .slice ao els0.length sCap → h0 N = none →
      (putK fz env o.dst (.av (.os N (els0.length + ys.length))) fun env => k env loc (h0.set N (.arr sz (els0 ++ ys)))) → Oper.wp P o a w (Next b fz env loc k) Q := by
    intro els0 olds sCap ao h0 E0 S0 F0 hg hb hv hn hk
    have hnn : els0.length + ys.length ≤ 140737488355328 := by
      have : (els0.length + ys.length) * 1 ≤ (els0.length + ys.length) * bytes := Nat.mul_le_mul_left _ (by omega)
      omega
    have hrun := run_append_g (ty := o.type) hu FE.info FE.zero S0 S1' hg (by omega) (by rw [eb]; exact growslice_fits hg hb)
    have E1 := E0.trans (Ev.draw E0.rel (w.drawn + 1))
    have hge := grownCap_ge w (els0.length + ys.length) sCap (cf.ty t).elem
    obtain ⟨C', h3, h4, E2⟩ := Ev.newOwn E1.rel (id := N) hN1 hn (.cells (olds.toArray ++ cs.toArray ++ Builtin.zeroCells ze.cells (grownCap w (els0.length + ys.length) sCap (cf.ty t).elem - (els0.length + ys.length))) (cf.ty t).elem) sz
        (grownCap w (els0.length + ys.length) sCap (cf.ty t).elem * sz) (.arr sz (els0 ++ ys)) fun C' hrep => by
      refine Flat.arel (e := (cf.ty t).elem) (cs := olds ++ cs) (rest := (Builtin.zeroCells ze.cells (grownCap w (els0.length + ys.length) sCap (cf.ty t).elem - (els0.length + ys.length))).toList) ((F0.append FL).mono fun x v hr => hrep _ _ (rep_heap (w := w) (w' := { w with drawn := w.drawn + 1 }) rfl hr)) ?_ ?_
      · rw [heap_push_new]
        congr 2
        apply Array.ext'
        simp [List.append_assoc]
      · have hz0 : ze.cells.size = sz := by rw [FE.zsize, hsz]
        simp only [List.length_append, F0.len, FL.len, Array.length_toList, size_zeroCells, hz0, ← Nat.add_mul]
        congr 1
        omega
    refine wp_val H (run (hv ▸ hrun)) (E1.trans E2) (y := .av _) ?_ av_lkey hk
    exact Rep.os h3 hge (Nat.le_refl _)
  rcases hk3 with ⟨rfl, hb, hk0, hkn⟩ | ⟨id, len, els, rfl, hh, hle, hb, hkk⟩
  · generalize hv : a.eval x = va at hx
    cases hx with
    | @e0 aa =>
      by_cases hys : ys = []
      · subst hys
        have hcs : cs = [] := List.eq_nil_of_length_eq_zero (by simpa using FL.len)
        subst hcs
        refine wp_same H (run (r := .slice aa 0 0) (by rw [hv]; exact run_append_0 hu FE.info S1')) (y := .av _) .e0 av_lkey (hk0 rfl)
      · have hpos : 0 < ys.length := List.length_pos_iff.2 hys
        have := grow [] [] 0 aa h (Ev.refl H.ev.rel) Src.nil .nil (by simpa using hpos) (by simpa using hb) hv hN2
        simp only [List.length_nil, Nat.zero_add, List.nil_append] at this
        exact this (hkn hys N hN2)
  · obtain ⟨ow, hmu, hni, hrel⟩ := H.ev.rel.own _ _ hh
    have hx2 := srcA_elim (P := P) (k := fun l => l = els.take len) hs H.ev.rel hx (by simp [srcA, hh, hle])
    obtain ⟨xs, olds, S0, F0, rfl⟩ := hx2
    have hlen : (els.take len).length = len := by simp; omega
    generalize hv : a.eval x = va at hx
    have hdN : (h.del id) N = none := by
      by_cases e : N = id
      · rw [e]; exact Heap.del_same _ _
      · rw [Heap.del_ne e]; exact hN2
    cases hx with
    | @os _ _ cap _ hm hl hn =>
      rw [hmu] at hm; cases hm
      rw [hv, hlen] at S0
      by_cases hroom : len + ys.length ≤ cap
      · obtain ⟨rfl, g1, g2, c, e, g3, g4, g5⟩ := hrel
        have hfit : len * ow.sz + cs.length ≤ c.size := by
          rw [FL.len, ← Nat.add_mul, g4]
          exact Nat.le_trans (Nat.mul_le_mul_right _ hroom) hn
        have hrun := run_append_r (ty := o.type) hu FE.info ow.blk len cap ys.length c g3 S1' FL.one hroom (by rw [es]; exact hfit)
        have E1 := Ev.setOwn H.ev.rel (w' := w.setRow ow.blk (c.toList.take (len * ie.size) ++ cs ++ c.toList.drop (len * ie.size + cs.length)).toArray) (nd' := .arr ow.sz (els.take len ++ ys)) hh hmu (fun b hb => setRow_other w _ _ _ hb) (by simp) rfl rfl rfl fun hrep => by
          have F1 := ARel.flat hs hle (by rw [g4]; exact Nat.le_trans (Nat.mul_le_mul_right _ hl) hn) g1 g5
          refine Flat.arel (e := e) (cs := c.toList.take (len * ow.sz) ++ cs) (rest := c.toList.drop (len * ow.sz + cs.length)) ((F1.append FL).mono hrep) ?_ ?_
          · rw [setRow_heap w _ c _ e _ g3, es]
          · simp only [List.length_append, List.length_take, List.length_drop, Array.length_toList]
            omega
        obtain ⟨C', h3, h4, E2⟩ := Ev.rename E1.rel (Heap.set_same _ _ _) hmu hN1 (by rw [Heap.set_ne (fun e => by rw [e, hmu] at hN1; cases hN1)]; exact hN2)
        have hh2 : ((h.set id (.arr ow.sz (els.take len ++ ys))).del id).set N (.arr ow.sz (els.take len ++ ys)) = (h.del id).set N (.arr ow.sz (els.take len ++ ys)) := by
          funext i
          simp only [Heap.set, Heap.del]
          by_cases e1 : i = N
          · simp [e1]
          · by_cases e2 : i = id <;> simp [e1, e2]
        rw [hh2] at E2
        refine wp_val H (run (hv ▸ hrun)) (E1.trans E2) (y := .av _) ?_ av_lkey (hkk N hdN)
        exact Rep.os h3 hroom hn
      · have := grow (els.take len) olds cap _ (h.del id) (Ev.del H.ev.rel id) (by rw [es, hlen]; exact S0) F0 (by rw [hlen]; omega) (by rw [hlen]; exact hb) (by rw [hlen]; exact hv) hdN
        rw [hlen] at this
        exact this (hkk N hdN)
end
end Am
