/- Abstract values of Go programs, what they say of a world's memory, and how both grow. -/
import Derived.Calls
import Derived.Orders
import Derived.Laws.AppendOwn
import Derived.Laws.MakeOwn
import Derived.KernelRfl
set_option linter.unusedVariables false
set_option linter.unusedSimpArgs false
namespace Am
open Go

/-- Values: `val` plain, `e0` a slice without elements and room, `ro`/`rs` a pointer to, a slice of immutable cells, `op`/`os`/`mp` of own blocks. -/
inductive AV where
  | val (v : Value)
  | e0
  | ro (cs : List AV)
  | rs (sz : Nat) (els : List (List AV))
  | op (id ix off : Nat)
  | os (id len : Nat)
  | mp (id : Nat)
  | fn (f : Nat) (caps : List AV)
  | agg (cs : List AV)
  | tup (vs : List AV)
  | any
  deriving Inhabited

def plain : Value → Bool
  | .bool _ | .int _ _ | .string _ | .pointer none | .map none | .nilFunc | .nilIface => true
  | _ => false
/-- What one cell can hold. -/
abbrev one (v : Value) : Bool := v.oneCell'
theorem one_plain {v : Value} (h : plain v = true) : one v = true := by cases v <;> simp_all [plain, one, Value.oneCell']

structure Own where
  blk : Nat
  sz : Nat
  n : Nat
structure Cx where
  mu : Nat → Option Own
  im : Nat → Prop

inductive Rep (w : World) (C : Cx) : AV → Value → Prop
  | val {v} (h : plain v = true) : Rep w C (.val v) v
  | any {v} : Rep w C .any v
  | e0 {a} : Rep w C .e0 (.slice a 0 0)
  | ro {cs b o} (vs : Nat → Value) (him : C.im b) (hc : ∀ j, j < cs.length → w.cell? ⟨b, o + j, none⟩ = some (vs j) ∧ one (vs j) = true)
      (hr : ∀ j, j < cs.length → Rep w C (cs.getD j .any) (vs j)) : Rep w C (.ro cs) (.pointer (some ⟨b, o, none⟩))
  | rs0 {sz a cap} : Rep w C (.rs sz []) (.slice a 0 cap)
  | rs {sz els b o cap} (vs : Nat → Nat → Value) (him : C.im b) (hcap : els.length ≤ cap) (hsz : ∀ i, i < els.length → (els.getD i []).length = sz)
      (hc : ∀ i j, i < els.length → j < sz → w.cell? ⟨b, o + i * sz + j, none⟩ = some (vs i j) ∧ one (vs i j) = true)
      (hr : ∀ i j, i < els.length → j < sz → Rep w C ((els.getD i []).getD j .any) (vs i j)) : Rep w C (.rs sz els) (.slice (some ⟨b, o, none⟩) els.length cap)
  | op {id ix off o} (hm : C.mu id = some o) : Rep w C (.op id ix off) (.pointer (some ⟨o.blk, ix * o.sz + off, none⟩))
  | os {id len cap o} (hm : C.mu id = some o) (hl : len ≤ cap) (hn : cap * o.sz ≤ o.n) : Rep w C (.os id len) (.slice (some ⟨o.blk, 0, none⟩) len cap)
  | mp {id o} (hm : C.mu id = some o) : Rep w C (.mp id) (.map (some o.blk))
  | fn {f caps} (vs : Array Value) (hs : vs.size = caps.length) (hr : ∀ j, j < caps.length → Rep w C (caps.getD j .any) (vs.getD j undef)) : Rep w C (.fn f caps) (.func (.func f) #[] vs)
  | agg {cs} (vs : Array Value) (hs : vs.size = cs.length) (h1 : ∀ j, j < cs.length → one (vs.getD j undef) = true)
      (hr : ∀ j, j < cs.length → Rep w C (cs.getD j .any) (vs.getD j undef)) : Rep w C (.agg cs) (.agg vs)
  | tup {cs} (vs : Array Value) (hs : vs.size = cs.length) (hr : ∀ j, j < cs.length → Rep w C (cs.getD j .any) (vs.getD j undef)) : Rep w C (.tup cs) (.tuple vs)

theorem cell_congr {w w' : World} {b : Nat} (h : w'.heap[b]? = w.heap[b]?) (o : Nat) : w'.cell? ⟨b, o, none⟩ = w.cell? ⟨b, o, none⟩ := by
  unfold World.cell?; rw [h]

theorem Rep.mono {w w' : World} {C C' : Cx} (hmu : ∀ id o, C.mu id = some o → C'.mu id = some o) (him : ∀ b, C.im b → C'.im b ∧ w'.heap[b]? = w.heap[b]?) {x : AV} {v : Value} (h : Rep w C x v) : Rep w' C' x v := by
  induction h with
  | val h => exact .val h
  | any => exact .any
  | e0 => exact .e0
  | ro vs hi hc _ ih => exact .ro vs (him _ hi).1 (fun j hj => by rw [cell_congr (him _ hi).2]; exact hc j hj) ih
  | rs0 => exact .rs0
  | rs vs hi hcap hsz hc _ ih => exact .rs vs (him _ hi).1 hcap hsz (fun i j hj hk => by rw [cell_congr (him _ hi).2]; exact hc i j hj hk) ih
  | op hm => exact .op (hmu _ _ hm)
  | os hm hl hn => exact .os (hmu _ _ hm) hl hn
  | mp hm => exact .mp (hmu _ _ hm)
  | fn vs hs _ ih => exact .fn vs hs ih
  | agg vs hs h1 _ ih => exact .agg vs hs h1 ih
  | tup vs hs _ ih => exact .tup vs hs ih

/-- A key of a map, and what a node of the own heap holds. -/
inductive Node where
  | arr (sz : Nat) (els : List (List AV))
  | map (es : List (AV × AV))
  | iter (id n : Nat) (left : List Nat) (cur : Option Nat)
  deriving Inhabited
abbrev Heap := Nat → Option Node
def Heap.set (h : Heap) (id : Nat) (n : Node) : Heap := fun i => if i = id then some n else h i
def Heap.del (h : Heap) (id : Nat) : Heap := fun i => if i = id then none else h i

/-- Block o of the world holds the node. -/
def ARel (w : World) (C : Cx) (o : Own) (sz : Nat) (els : List (List AV)) : Prop :=
  o.sz = sz ∧ (∀ i, i < els.length → (els.getD i []).length = sz) ∧ els.length * sz ≤ o.n ∧ ∃ c e, w.heap[o.blk]? = some (.cells c e (0, 0)) ∧ c.size = o.n ∧
    ∀ i j, i < els.length → j < sz → ∃ v, c[i * sz + j]? = some v ∧ one v = true ∧ Rep w C ((els.getD i []).getD j .any) v
def NRel (w : World) (C : Cx) (o : Own) : Node → Prop
  | .arr sz els => ARel w C o sz els
  | .map es => ∃ ms, w.heap[o.blk]? = some (.map ms es.length) ∧ ms.size = es.length ∧ ∀ i, i < es.length → ∃ m, ms[i]? = some m ∧ m.born = i ∧ Rep w C (es.getD i (.any, .any)).1 m.key ∧ Rep w C (es.getD i (.any, .any)).2 m.val
  | .iter id n left cur => ∃ b seen, Rep w C (.mp id) (.map (some b)) ∧ w.heap[o.blk]? = some (.mapIter (some b) n seen n) ∧ left.Nodup ∧ (∀ i, i ∈ left ↔ i < n ∧ ¬ i ∈ seen) ∧ (seen.isEmpty = true ∨ 0 < n) ∧ seen.back? = cur ∧ ∀ i, i ∈ seen → i < n

def Live (C : Cx) (h : Heap) (b : Nat) : Prop := ∃ id n o, h id = some n ∧ C.mu id = some o ∧ o.blk = b

structure MRel (w : World) (C : Cx) (h : Heap) : Prop where
  inj : ∀ id id' n n' o o', h id = some n → h id' = some n' → C.mu id = some o → C.mu id' = some o' → o.blk = o'.blk → id = id'
  own : ∀ id n, h id = some n → ∃ o, C.mu id = some o ∧ ¬ C.im o.blk ∧ NRel w C o n
  imlt : ∀ b, C.im b → b < w.heap.size
  fresh : ∃ N, ∀ id, N ≤ id → C.mu id = none ∧ h id = none

/-- From one moment to a later one: what lay there and is not own lies unturned. -/
structure Ev (w : World) (C : Cx) (h : Heap) (w' : World) (C' : Cx) (h' : Heap) : Prop where
  mu : ∀ id o, C.mu id = some o → C'.mu id = some o
  im : ∀ b, C.im b → C'.im b
  im' : ∀ b, C'.im b → C.im b ∨ Live C h b ∨ w.heap.size ≤ b
  live' : ∀ b, Live C' h' b → Live C h b ∨ w.heap.size ≤ b
  frame : ∀ b, b < w.heap.size → ¬ Live C h b → w'.heap[b]? = w.heap[b]?
  size : w.heap.size ≤ w'.heap.size
  os : w'.os = w.os
  tape : w'.tape = w.tape
  output : w'.output = w.output
  rel : MRel w' C' h'

theorem NRel.blk_lt {w : World} {C : Cx} {o : Own} {n : Node} (h : NRel w C o n) : o.blk < w.heap.size := by
  cases n with
  | arr sz els => obtain ⟨_, _, _, c, e, hc, _⟩ := h; exact (Array.getElem?_eq_some_iff.1 hc).1
  | map es => obtain ⟨ms, hc, _⟩ := h; exact (Array.getElem?_eq_some_iff.1 hc).1
  | iter id n left cur => obtain ⟨b, seen, _, hc, _⟩ := h; exact (Array.getElem?_eq_some_iff.1 hc).1
theorem MRel.live_lt {w : World} {C : Cx} {h : Heap} (H : MRel w C h) {b : Nat} (hb : Live C h b) : b < w.heap.size := by
  obtain ⟨id, n, o, h1, h2, rfl⟩ := hb
  obtain ⟨o', h3, _, h4⟩ := H.own id n h1
  rw [h2] at h3; cases h3
  exact h4.blk_lt
theorem MRel.im_live {w : World} {C : Cx} {h : Heap} (H : MRel w C h) {b : Nat} (hi : C.im b) : ¬ Live C h b := by
  rintro ⟨id, n, o, h1, h2, rfl⟩
  obtain ⟨o', h3, h4, _⟩ := H.own id n h1
  rw [h2] at h3; cases h3
  exact h4 hi

theorem Ev.refl {w : World} {C : Cx} {h : Heap} (H : MRel w C h) : Ev w C h w C h :=
  ⟨fun _ _ h => h, fun _ h => h, fun _ h => .inl h, fun _ h => .inl h, fun _ _ _ => rfl, Nat.le_refl _, rfl, rfl, rfl, H⟩
theorem Ev.trans {w w1 w2 : World} {C C1 C2 : Cx} {h h1 h2 : Heap} (A : Ev w C h w1 C1 h1) (B : Ev w1 C1 h1 w2 C2 h2) : Ev w C h w2 C2 h2 where
  mu id o ho := B.mu id o (A.mu id o ho)
  im b hb := B.im b (A.im b hb)
  im' b hb := by
    rcases B.im' b hb with h | h | h
    · exact A.im' b h
    · exact .inr (A.live' b h)
    · exact .inr (.inr (Nat.le_trans A.size h))
  live' b hb := by
    rcases B.live' b hb with h | h
    · exact A.live' b h
    · exact .inr (Nat.le_trans A.size h)
  frame b hb hl := by
    have h1 : ¬ Live C1 h1 b := fun h => by
      rcases A.live' b h with h | h
      · exact hl h
      · omega
    rw [B.frame b (Nat.lt_of_lt_of_le hb A.size) h1, A.frame b hb hl]
  size := Nat.le_trans A.size B.size
  os := B.os.trans A.os
  tape := B.tape.trans A.tape
  output := B.output.trans A.output
  rel := B.rel
/-- What was told of a value stays true. -/
theorem Ev.rep {w w' : World} {C C' : Cx} {h h' : Heap} (H : MRel w C h) (E : Ev w C h w' C' h') {x : AV} {v : Value} (hr : Rep w C x v) : Rep w' C' x v :=
  hr.mono E.mu fun b hb => ⟨E.im b hb, E.frame b (H.imlt b hb) (H.im_live hb)⟩

theorem Heap.set_same (h : Heap) (id : Nat) (n : Node) : (h.set id n) id = some n := by simp [Heap.set]
theorem Heap.set_ne {h : Heap} {id i : Nat} {n : Node} (hi : i ≠ id) : (h.set id n) i = h i := by simp [Heap.set, hi]
theorem Heap.del_same (h : Heap) (id : Nat) : (h.del id) id = none := by simp [Heap.del]
theorem Heap.del_ne {h : Heap} {id i : Nat} (hi : i ≠ id) : (h.del id) i = h i := by simp [Heap.del, hi]
end Am
