/- PA: joined of A1, A2, A3, A4, A5, A6, A7, A8, AE, A9. -/
import Derived.Calls
import Derived.Orders
import Derived.Laws.AppendOwn
import Derived.Laws.MakeOwn
import Derived.KernelRfl
import Derived.DeepKeys3
set_option linter.unusedVariables false
set_option linter.unusedSimpArgs false
namespace Am
open Go
inductive AV where
  | val (v : Value)
  | e0
  | ro (cs : List AV)
  | rs (sz : Nat) (els : List (List AV))
  | op (id ix off : Nat)
  | os (id len : Nat)
  | mp (id : Nat)
  | fn (f : Nat) (caps : List AV)
  | agg (cs : List AV)
  | tup (vs : List AV)
  | any
  deriving Inhabited
def plain : Value → Bool
  | .bool _ | .int _ _ | .string _ | .pointer none | .map none | .nilFunc | .nilIface => true
  | _ => false
abbrev one (v : Value) : Bool := v.oneCell'
theorem one_plain {v : Value} (h : plain v = true) : one v = true := by cases v <;> simp_all [plain, one, Value.oneCell']
structure Own where
  blk : Nat
  sz : Nat
  n : Nat
structure Cx where
  mu : Nat → Option Own
  im : Nat → Prop
inductive Rep (w : World) (C : Cx) : AV → Value → Prop
  | val {v} (h : plain v = true) : Rep w C (.val v) v
  | any {v} : Rep w C .any v
  | e0 {a} : Rep w C .e0 (.slice a 0 0)
  | ro {cs b o} (vs : Nat → Value) (him : C.im b) (hc : ∀ j, j < cs.length → w.cell? ⟨b, o + j, none⟩ = some (vs j) ∧ one (vs j) = true)
      (hr : ∀ j, j < cs.length → Rep w C (cs.getD j .any) (vs j)) : Rep w C (.ro cs) (.pointer (some ⟨b, o, none⟩))
  | rs0 {sz a cap} : Rep w C (.rs sz []) (.slice a 0 cap)
  | rs {sz els b o cap} (vs : Nat → Nat → Value) (him : C.im b) (hcap : els.length ≤ cap) (hsz : ∀ i, i < els.length → (els.getD i []).length = sz)
      (hc : ∀ i j, i < els.length → j < sz → w.cell? ⟨b, o + i * sz + j, none⟩ = some (vs i j) ∧ one (vs i j) = true)
      (hr : ∀ i j, i < els.length → j < sz → Rep w C ((els.getD i []).getD j .any) (vs i j)) : Rep w C (.rs sz els) (.slice (some ⟨b, o, none⟩) els.length cap)
  | op {id ix off o} (hm : C.mu id = some o) : Rep w C (.op id ix off) (.pointer (some ⟨o.blk, ix * o.sz + off, none⟩))
  | os {id len cap o} (hm : C.mu id = some o) (hl : len ≤ cap) (hn : cap * o.sz ≤ o.n) : Rep w C (.os id len) (.slice (some ⟨o.blk, 0, none⟩) len cap)
  | mp {id o} (hm : C.mu id = some o) : Rep w C (.mp id) (.map (some o.blk))
  | fn {f caps} (vs : Array Value) (hs : vs.size = caps.length) (hr : ∀ j, j < caps.length → Rep w C (caps.getD j .any) (vs.getD j undef)) : Rep w C (.fn f caps) (.func (.func f) #[] vs)
  | agg {cs} (vs : Array Value) (hs : vs.size = cs.length) (h1 : ∀ j, j < cs.length → one (vs.getD j undef) = true)
      (hr : ∀ j, j < cs.length → Rep w C (cs.getD j .any) (vs.getD j undef)) : Rep w C (.agg cs) (.agg vs)
  | tup {cs} (vs : Array Value) (hs : vs.size = cs.length) (hr : ∀ j, j < cs.length → Rep w C (cs.getD j .any) (vs.getD j undef)) : Rep w C (.tup cs) (.tuple vs)
theorem cell_congr {w w' : World} {b : Nat} (h : w'.heap[b]? = w.heap[b]?) (o : Nat) : w'.cell? ⟨b, o, none⟩ = w.cell? ⟨b, o, none⟩ := by
  unfold World.cell?; rw [h]
theorem Rep.mono {w w' : World} {C C' : Cx} (hmu : ∀ id o, C.mu id = some o → C'.mu id = some o) (him : ∀ b, C.im b → C'.im b ∧ w'.heap[b]? = w.heap[b]?) {x : AV} {v : Value} (h : Rep w C x v) : Rep w' C' x v := by
  induction h with
  | val h => exact .val h
  | any => exact .any
  | e0 => exact .e0
  | ro vs hi hc _ ih => exact .ro vs (him _ hi).1 (fun j hj => by rw [cell_congr (him _ hi).2]; exact hc j hj) ih
  | rs0 => exact .rs0
  | rs vs hi hcap hsz hc _ ih => exact .rs vs (him _ hi).1 hcap hsz (fun i j hj hk => by rw [cell_congr (him _ hi).2]; exact hc i j hj hk) ih
  | op hm => exact .op (hmu _ _ hm)
  | os hm hl hn => exact .os (hmu _ _ hm) hl hn
  | mp hm => exact .mp (hmu _ _ hm)
  | fn vs hs _ ih => exact .fn vs hs ih
  | agg vs hs h1 _ ih => exact .agg vs hs h1 ih
  | tup vs hs _ ih => exact .tup vs hs ih
inductive Node where
  | arr (sz : Nat) (els : List (List AV))
  | map (es : List (AV × AV))
  | iter (id n : Nat) (left : List Nat) (cur : Option Nat)
  deriving Inhabited
abbrev Heap := Nat → Option Node
def Heap.set (h : Heap) (id : Nat) (n : Node) : Heap := fun i => if i = id then some n else h i
def Heap.del (h : Heap) (id : Nat) : Heap := fun i => if i = id then none else h i
def ARel (w : World) (C : Cx) (o : Own) (sz : Nat) (els : List (List AV)) : Prop :=
  o.sz = sz ∧ (∀ i, i < els.length → (els.getD i []).length = sz) ∧ els.length * sz ≤ o.n ∧ ∃ c e, w.heap[o.blk]? = some (.cells c e (0, 0)) ∧ c.size = o.n ∧
    ∀ i j, i < els.length → j < sz → ∃ v, c[i * sz + j]? = some v ∧ one v = true ∧ Rep w C ((els.getD i []).getD j .any) v
def NRel (w : World) (C : Cx) (o : Own) : Node → Prop
  | .arr sz els => ARel w C o sz els
  | .map es => ∃ ms, w.heap[o.blk]? = some (.map ms es.length) ∧ ms.size = es.length ∧ ∀ i, i < es.length → ∃ m, ms[i]? = some m ∧ m.born = i ∧ Rep w C (es.getD i (.any, .any)).1 m.key ∧ Rep w C (es.getD i (.any, .any)).2 m.val
  | .iter id n left cur => ∃ b seen, Rep w C (.mp id) (.map (some b)) ∧ w.heap[o.blk]? = some (.mapIter (some b) n seen n) ∧ left.Nodup ∧ (∀ i, i ∈ left ↔ i < n ∧ ¬ i ∈ seen) ∧ (seen.isEmpty = true ∨ 0 < n) ∧ seen.back? = cur ∧ ∀ i, i ∈ seen → i < n
def Live (C : Cx) (h : Heap) (b : Nat) : Prop := ∃ id n o, h id = some n ∧ C.mu id = some o ∧ o.blk = b
structure MRel (w : World) (C : Cx) (h : Heap) : Prop where
  inj : ∀ id id' n n' o o', h id = some n → h id' = some n' → C.mu id = some o → C.mu id' = some o' → o.blk = o'.blk → id = id'
  own : ∀ id n, h id = some n → ∃ o, C.mu id = some o ∧ ¬ C.im o.blk ∧ NRel w C o n
  imlt : ∀ b, C.im b → b < w.heap.size
  fresh : ∃ N, ∀ id, N ≤ id → C.mu id = none ∧ h id = none
structure Ev (w : World) (C : Cx) (h : Heap) (w' : World) (C' : Cx) (h' : Heap) : Prop where
  mu : ∀ id o, C.mu id = some o → C'.mu id = some o
  im : ∀ b, C.im b → C'.im b
  im' : ∀ b, C'.im b → C.im b ∨ Live C h b ∨ w.heap.size ≤ b
  live' : ∀ b, Live C' h' b → Live C h b ∨ w.heap.size ≤ b
  frame : ∀ b, b < w.heap.size → ¬ Live C h b → w'.heap[b]? = w.heap[b]?
  size : w.heap.size ≤ w'.heap.size
  os : w'.os = w.os
  tape : w'.tape = w.tape
  output : w'.output = w.output
  rel : MRel w' C' h'
theorem NRel.blk_lt {w : World} {C : Cx} {o : Own} {n : Node} (h : NRel w C o n) : o.blk < w.heap.size := by
  cases n with
  | arr sz els => obtain ⟨_, _, _, c, e, hc, _⟩ := h; exact (Array.getElem?_eq_some_iff.1 hc).1
  | map es => obtain ⟨ms, hc, _⟩ := h; exact (Array.getElem?_eq_some_iff.1 hc).1
  | iter id n left cur => obtain ⟨b, seen, _, hc, _⟩ := h; exact (Array.getElem?_eq_some_iff.1 hc).1
theorem MRel.live_lt {w : World} {C : Cx} {h : Heap} (H : MRel w C h) {b : Nat} (hb : Live C h b) : b < w.heap.size := by
  obtain ⟨id, n, o, h1, h2, rfl⟩ := hb
  obtain ⟨o', h3, _, h4⟩ := H.own id n h1
  rw [h2] at h3; cases h3
  exact h4.blk_lt
theorem MRel.im_live {w : World} {C : Cx} {h : Heap} (H : MRel w C h) {b : Nat} (hi : C.im b) : ¬ Live C h b := by
  rintro ⟨id, n, o, h1, h2, rfl⟩
  obtain ⟨o', h3, h4, _⟩ := H.own id n h1
  rw [h2] at h3; cases h3
  exact h4 hi
theorem Ev.refl {w : World} {C : Cx} {h : Heap} (H : MRel w C h) : Ev w C h w C h :=
  ⟨fun _ _ h => h, fun _ h => h, fun _ h => .inl h, fun _ h => .inl h, fun _ _ _ => rfl, Nat.le_refl _, rfl, rfl, rfl, H⟩
theorem Ev.trans {w w1 w2 : World} {C C1 C2 : Cx} {h h1 h2 : Heap} (A : Ev w C h w1 C1 h1) (B : Ev w1 C1 h1 w2 C2 h2) : Ev w C h w2 C2 h2 where
  mu id o ho := B.mu id o (A.mu id o ho)
  im b hb := B.im b (A.im b hb)
  im' b hb := by
    rcases B.im' b hb with h | h | h
    · exact A.im' b h
    · exact .inr (A.live' b h)
    · exact .inr (.inr (Nat.le_trans A.size h))
  live' b hb := by
    rcases B.live' b hb with h | h
    · exact A.live' b h
    · exact .inr (Nat.le_trans A.size h)
  frame b hb hl := by
    have h1 : ¬ Live C1 h1 b := fun h => by
      rcases A.live' b h with h | h
      · exact hl h
      · omega
    rw [B.frame b (Nat.lt_of_lt_of_le hb A.size) h1, A.frame b hb hl]
  size := Nat.le_trans A.size B.size
  os := B.os.trans A.os
  tape := B.tape.trans A.tape
  output := B.output.trans A.output
  rel := B.rel
theorem Ev.rep {w w' : World} {C C' : Cx} {h h' : Heap} (H : MRel w C h) (E : Ev w C h w' C' h') {x : AV} {v : Value} (hr : Rep w C x v) : Rep w' C' x v :=
  hr.mono E.mu fun b hb => ⟨E.im b hb, E.frame b (H.imlt b hb) (H.im_live hb)⟩
theorem Heap.set_same (h : Heap) (id : Nat) (n : Node) : (h.set id n) id = some n := by simp [Heap.set]
theorem Heap.set_ne {h : Heap} {id i : Nat} {n : Node} (hi : i ≠ id) : (h.set id n) i = h i := by simp [Heap.set, hi]
theorem Heap.del_same (h : Heap) (id : Nat) : (h.del id) id = none := by simp [Heap.del]
theorem Heap.del_ne {h : Heap} {id i : Nat} (hi : i ≠ id) : (h.del id) i = h i := by simp [Heap.del, hi]
end Am
set_option linter.unusedVariables false
set_option linter.unusedSimpArgs false
namespace Am
noncomputable section
open Go
abbrev I (n : Int) : AV := .val (.int .i64 n)
abbrev B (b : Bool) : AV := .val (.bool b)
abbrev S (s : ByteArray) : AV := .val (.string s)
def g (cs : List AV) (j : Nat) : AV := cs.getD j .any
def gets (cs : List AV) : Nat → Nat → List AV
  | _, 0 => []
  | j, n + 1 => g cs j :: gets cs (j + 1) n
inductive TK where
  | other
  | bool
  | str
  | int (k : IntKind)
  | map (k e : Nat)
  deriving DecidableEq, Inhabited
structure TyI where
  agg : Bool
  sz : Nat
  zero : List AV
  flds : List (Nat × Nat)
  elem : Nat
  bytes : Nat
  kd : TK
  arr : Bool
  eq : List TK
  deriving Inhabited
def brA (c : AV) (A B : Prop) : Prop := match c with
  | .val (.bool b) => (b = true → A) ∧ (b = false → B)
  | _ => False
def nilA (x : AV) (k : Prop) : Prop := match x with
  | .ro _ | .op _ _ _ | .fn _ _ => k
  | _ => False
def loadV (p : AV) (h : Heap) (k : AV → Prop) : Prop := match p with
  | .ro cs => 0 < cs.length ∧ k (g cs 0)
  | .op id ix off => match h id with
    | some (.arr z els) => ix < els.length ∧ off < z ∧ k (g (els.getD ix []) off)
    | _ => False
  | _ => False
def loadG (sz : Nat) (p : AV) (h : Heap) (k : List AV → Prop) : Prop := match p with
  | .ro cs => sz ≤ cs.length ∧ k cs
  | .op id ix off => match h id with
    | some (.arr z els) => ix < els.length ∧ off + sz ≤ z ∧ k ((els.getD ix []).drop off)
    | _ => False
  | _ => False
def aggA (sz : Nat) (v : AV) (k : List AV → Prop) : Prop := match v with
  | .agg cs => cs.length = sz ∧ k cs
  | _ => False
def oneA (x : AV) (k : Prop) : Prop := match x with
  | .agg _ | .tup _ | .any => False
  | _ => k
def splice (cs : List AV) (off : Nat) : List AV → List AV
  | [] => cs
  | x :: xs => splice (cs.set off x) (off + 1) xs
def storeG (p : AV) (cs : List AV) (h : Heap) (k : Heap → Prop) : Prop := match p with
  | .op id ix off => match h id with
    | some (.arr z els) => ix < els.length ∧ off + cs.length ≤ z ∧ k (h.set id (.arr z (els.set ix (splice (els.getD ix []) off cs))))
    | _ => False
  | _ => False
def fldA (off : Nat) (p : AV) (k : AV → Prop) : Prop := match p with
  | .ro cs => k (.ro (cs.drop off))
  | .op id ix o => k (.op id ix (o + off))
  | _ => False
def idxA (es : Nat) (x i : AV) (h : Heap) (k : AV → Prop) : Prop := match i with
  | .val (.int _ n) => match x with
    | .rs sz els => sz = es ∧ 0 ≤ n ∧ n < els.length ∧ k (.ro (els.getD n.toNat []))
    | .os id len => match h id with
      | some (.arr z els) => z = es ∧ 0 ≤ n ∧ n < len ∧ len ≤ els.length ∧ k (.op id n.toNat 0)
      | _ => False
    | _ => False
  | _ => False
def lenA (x : AV) (k : AV → Prop) : Prop := match x with
  | .rs _ els => k (I els.length)
  | .os _ len => k (I len)
  | .e0 => k (I 0)
  | _ => False
def lenS (x : AV) (k : AV → Prop) : Prop := match x with
  | .val (.string s) => k (I s.size)
  | _ => False
def lenM (x : AV) (h : Heap) (k : AV → Prop) : Prop := match x with
  | .mp id => match h id with
    | some (.map es) => k (I es.length)
    | _ => False
  | _ => False
def intBin (op : BinOp) (k : IntKind) (a b : Int) : Option AV := match op with
  | .add => some (.val (.int k (k.wrap (a + b))))
  | .sub => some (.val (.int k (k.wrap (a - b))))
  | .mul => some (.val (.int k (k.wrap (a * b))))
  | .rem => if b = 0 then none else some (.val (.int k (a.tmod b)))
  | .quo => if b = 0 then none else some (.val (.int k (k.wrap (a.tdiv b))))
  | .eql => some (B (a == b))
  | .neq => some (B (a != b))
  | .lss => some (B (decide (a < b)))
  | .leq => some (B (decide (a ≤ b)))
  | .gtr => some (B (decide (a > b)))
  | .geq => some (B (decide (a ≥ b)))
  | .xor => some (.val (.int k (k.wrap (BitVec.ofInt k.bits a ^^^ BitVec.ofInt k.bits b).toNat)))
  | _ => none
def strBin (op : BinOp) (a b : ByteArray) : Option AV := match op with
  | .add => if a.size + b.size ≤ 140737488355328 then some (S (a ++ b)) else none
  | .eql => some (B (a.toList == b.toList))
  | .neq => some (B (!(a.toList == b.toList)))
  | _ => none
def eqCell : TK → AV → AV → Option Bool
  | .int _, .val (.int k a), .val (.int k' b) => if k = k' then some (a == b) else none
  | .bool, .val (.bool a), .val (.bool b) => some (a == b)
  | .str, .val (.string a), .val (.string b) => some (a.toList == b.toList)
  | _, _, _ => none
def eqCells : List TK → List AV → List AV → Option Bool
  | [], [], [] => some true
  | t :: ts, x :: xs, y :: ys => match eqCell t x y with
    | some true => eqCells ts xs ys
    | some false => some false
    | none => none
  | _, _, _ => none
def eqKey (ks : List TK) (x y : AV) : Option Bool := match x, y with
  | .agg xs, .agg ys => if xs.length = ks.length ∧ ys.length = ks.length then eqCells ks xs ys else none
  | x, y => match ks with
    | [t] => eqCell t x y
    | _ => none
def findA (ks : List TK) (key : AV) : List (AV × AV) → Nat → Option (Option Nat)
  | [], _ => some none
  | (k, _) :: r, i => match eqKey ks key k with
    | some true => some (some i)
    | some false => findA ks key r (i + 1)
    | none => none
def eval2 (es : List (AV × AV)) (i : Nat) : AV := (es.getD i (.any, .any)).2
def ekey (es : List (AV × AV)) (i : Nat) : AV := (es.getD i (.any, .any)).1
def mapA (ks : List TK) (m key : AV) (h : Heap) (k : Nat → List (AV × AV) → Option Nat → Prop) : Prop := match m with
  | .mp id => match h id with
    | some (.map es) => match findA ks key es 0 with
      | some r => k id es r
      | none => False
    | _ => False
  | _ => False
def newM (h : Heap) (k : AV → Heap → Prop) : Prop := ∀ id, h id = none → k (.mp id) (h.set id (.map []))
def lookA (ks : List TK) (ok : Bool) (zero m key : AV) (h : Heap) (k : AV → Prop) : Prop := mapA ks m key h fun _ es r => match r with
  | some i => k (if ok then .tup [eval2 es i, B true] else eval2 es i)
  | none => k (if ok then .tup [zero, B false] else zero)
def updA (ks : List TK) (m key v : AV) (h : Heap) (k : Heap → Prop) : Prop := mapA ks m key h fun id es r => match r with
  | some i => k (h.set id (.map (es.set i (key, v))))
  | none => k (h.set id (.map (es ++ [(key, v)])))
def entA (ks : List TK) (zero m key : AV) (h : Heap) (k : AV → Heap → Prop) : Prop := mapA ks m key h fun id es r => match r with
  | some i => k (.tup [eval2 es i, I i]) (h.set id (.map (es.set i (key, eval2 es i))))
  | none => k (.tup [zero, I es.length]) (h.set id (.map (es ++ [(key, zero)])))
def entS (m i v : AV) (h : Heap) (k : Heap → Prop) : Prop := match m, i with
  | .mp id, .val (.int _ n) => match h id with
    | some (.map es) => 0 ≤ n ∧ n < es.length ∧ k (h.set id (.map (es.set n.toNat (ekey es n.toNat, v))))
    | _ => False
  | _, _ => False
def rangeA (m : AV) (h : Heap) (k : AV → Heap → Prop) : Prop := match m with
  | .mp id => match h id with
    | some (.map es) => ∀ it, h it = none → k (.op it 0 0) (h.set it (.iter id es.length (List.range es.length) none))
    | _ => False
  | _ => False
def iterA (it : AV) (h : Heap) (k : Nat → Nat → Nat → List (AV × AV) → List Nat → Option Nat → Prop) : Prop := match it with
  | .op it 0 0 => match h it with
    | some (.iter id n left cur) => match h id with
      | some (.map es) => es.length = n ∧ k it id n es left cur
      | _ => False
    | _ => False
  | _ => False
def nextA (it : AV) (h : Heap) (k : AV → Heap → Prop) : Prop := iterA it h fun it id n es left _ =>
  (left = [] → k (.tup [B false]) h) ∧ ∀ i, i ∈ left → k (.tup [B true, ekey es i, eval2 es i]) (h.set it (.iter id n (left.erase i) (some i)))
def entryA (it : AV) (h : Heap) (k : AV → Prop) : Prop := iterA it h fun _ _ _ es _ cur => match cur with
  | some i => k (.tup [ekey es i, eval2 es i])
  | none => False
def abin (op : BinOp) (x y : AV) : Option AV := match x, y with
  | .val (.int k a), .val (.int k' b) => if k = k' then intBin op k a b else none
  | .val (.string a), .val (.string b) => strBin op a b
  | _, _ => none
def eqbA (neg : Bool) (x y : AV) (k : AV → Prop) : Prop := match x, y with
  | .val (.bool a), .val (.bool b) => k (B (if neg then !(a == b) else a == b))
  | _, _ => False
def binA (op : BinOp) (x y : AV) (k : AV → Prop) : Prop := match abin op x y with
  | some v => k v
  | none => False
def eqA (ks : List TK) (neg : Bool) (x y : AV) (k : AV → Prop) : Prop := match x, y with
  | .agg xs, .agg ys => xs.length = ks.length ∧ ys.length = ks.length ∧ match eqCells ks xs ys with
    | some b => k (B (if neg then !b else b))
    | none => False
  | _, _ => False
def notA (x : AV) (k : AV → Prop) : Prop := match x with
  | .val (.bool b) => k (B (!b))
  | _ => False
def maxA (x y : AV) (k : AV → Prop) : Prop := match x, y with
  | .val (.int .i64 a), .val (.int .i64 b) => k (I (if b > a then b else a))
  | _, _ => False
def minA (x y : AV) (k : AV → Prop) : Prop := match x, y with
  | .val (.int .i64 a), .val (.int .i64 b) => k (I (if b < a then b else a))
  | _, _ => False
def tupA (x : AV) (i : Nat) (k : AV → Prop) : Prop := match x with
  | .tup vs => i < vs.length ∧ k (vs.getD i .any)
  | _ => False
def srcA (sz : Nat) (y : AV) (h : Heap) (k : List (List AV) → Prop) : Prop := match y with
  | .rs z els => z = sz ∧ k els
  | .os id len => match h id with
    | some (.arr z els) => z = sz ∧ len ≤ els.length ∧ k (els.take len)
    | _ => False
  | .e0 => k []
  | _ => False
def appA (sz bytes : Nat) (x y : AV) (h : Heap) (k : AV → Heap → Prop) : Prop := srcA sz y h fun ys => match x with
  | .e0 => ys.length * bytes ≤ 140737488355328 ∧ (ys = [] → k .e0 h) ∧ (ys ≠ [] → ∀ id, h id = none → k (.os id ys.length) (h.set id (.arr sz ys)))
  | .os id len => match h id with
    | some (.arr z els) => z = sz ∧ len ≤ els.length ∧ (len + ys.length) * bytes ≤ 140737488355328 ∧
        ∀ id', (h.del id) id' = none → k (.os id' (len + ys.length)) ((h.del id).set id' (.arr sz (els.take len ++ ys)))
    | _ => False
  | _ => False
def mkA (sz bytes : Nat) (zero : List AV) (n c : AV) (h : Heap) (k : AV → Heap → Prop) : Prop := match n, c with
  | .val (.int .i64 n), .val (.int .i64 c) => n = c ∧ 0 ≤ n ∧ n * bytes ≤ 140737488355328 ∧ ∀ id, h id = none → k (.os id n.toNat) (h.set id (.arr sz (List.replicate n.toNat zero)))
  | _, _ => False
def newA (sz : Nat) (cells : List AV) (h : Heap) (k : AV → Heap → Prop) : Prop := ∀ id, h id = none → k (.op id 0 0) (h.set id (.arr sz [cells]))
def sliceA (es : Nat) (x : AV) (lo hi : Option AV) (k : AV → Prop) : Prop := match x with
  | .rs sz els => sz = es ∧ 0 < es ∧ match lo, hi with
    | none, some (.val (.int _ b)) => 0 ≤ b ∧ b ≤ els.length ∧ k (.rs sz (els.take b.toNat))
    | some (.val (.int _ a)), none => 0 ≤ a ∧ a ≤ els.length ∧ k (.rs sz (els.drop a.toNat))
    | some (.val (.int _ a)), some (.val (.int _ b)) => 0 ≤ a ∧ a ≤ b ∧ b ≤ els.length ∧ k (.rs sz ((els.take b.toNat).drop a.toNat))
    | _, _ => False
  | .os id len => 0 < es ∧ match lo, hi with
    | none, some (.val (.int _ b)) => 0 ≤ b ∧ b ≤ len ∧ k (.os id b.toNat)
    | _, _ => False
  | .e0 => match lo, hi with
    | none, some (.val (.int _ b)) => 0 < es ∧ b = 0 ∧ k .e0
    | some (.val (.int _ a)), none => 0 < es ∧ a = 0 ∧ k .e0
    | _, _ => False
  | .val (.string s) => es = 0 ∧ match lo, hi with
    | none, some (.val (.int _ b)) => 0 ≤ b ∧ b ≤ s.size ∧ k (S (s.extract 0 b.toNat))
    | some (.val (.int _ a)), none => 0 ≤ a ∧ a ≤ s.size ∧ k (S (s.extract a.toNat s.size))
    | some (.val (.int _ a)), some (.val (.int _ b)) => 0 ≤ a ∧ a ≤ b ∧ b ≤ s.size ∧ k (S (s.extract a.toNat b.toNat))
    | _, _ => False
  | _ => False
def sl3A (es : Nat) (x hi mx : AV) (k : AV → Prop) : Prop := match x, hi, mx with
  | .rs sz els, .val (.int _ b), .val (.int _ c) => sz = es ∧ 0 < es ∧ 0 ≤ b ∧ b ≤ c ∧ c ≤ els.length ∧ k (.rs sz (els.take b.toNat))
  | _, _, _ => False
def strA (x i : AV) (k : AV → Prop) : Prop := match x, i with
  | .val (.string s), .val (.int _ n) => 0 ≤ n ∧ n < s.size ∧ k (.val (.int .u8 ((s.data.toList.getD n.toNat 0).toNat)))
  | _, _ => False
def fixA (x : AV) (k : Prop) : Prop := match x with
  | .ro _ | .rs _ _ | .val _ | .e0 => k
  | _ => False
def convA (kd : IntKind) (x : AV) (k : AV → Prop) : Prop := match x with
  | .val (.int _ n) => k (.val (.int kd (kd.wrap n)))
  | _ => False
inductive Ref (h h' : Heap) : AV → AV → Prop
  | refl {x} : Ref h h' x x
  | any {x} : Ref h h' x .any
  | e0 {sz} : Ref h h' .e0 (.rs sz [])
  | rs {sz els els'} (hl : els'.length = els.length) (hz : ∀ i, i < els.length → (els'.getD i []).length = sz) (hr : ∀ i j, i < els.length → j < sz → Ref h h' (g (els.getD i []) j) (g (els'.getD i []) j)) : Ref h h' (.rs sz els) (.rs sz els')
  | agg {cs cs'} (hl : cs'.length = cs.length) (hr : ∀ j, j < cs.length → Ref h h' (g cs j) (g cs' j)) : Ref h h' (.agg cs) (.agg cs')
  | tup {cs cs'} (hl : cs'.length = cs.length) (hr : ∀ j, j < cs.length → Ref h h' (g cs j) (g cs' j)) : Ref h h' (.tup cs) (.tup cs')
  | fn {f cs cs'} (hl : cs'.length = cs.length) (hr : ∀ j, j < cs.length → Ref h h' (g cs j) (g cs' j)) : Ref h h' (.fn f cs) (.fn f cs')
  | frz {id sz els len els'} (hh : h id = some (.arr sz els)) (hn : h' id = none) (hle : len ≤ els.length) (hl : els'.length = len) (hz : ∀ i, i < len → (els'.getD i []).length = sz)
      (hr : ∀ i j, i < len → j < sz → Ref h h' (g (els.getD i []) j) (g (els'.getD i []) j)) : Ref h h' (.os id len) (.rs sz els')
  | fro {id sz els ix off cs} (hh : h id = some (.arr sz els)) (hn : h' id = none) (hi : ix < els.length) (hl : off + cs.length ≤ sz)
      (hr : ∀ j, j < cs.length → Ref h h' (g (els.getD ix []) (off + j)) (g cs j)) : Ref h h' (.op id ix off) (.ro cs)
inductive NRef (h h' : Heap) : Node → Node → Prop
  | refl {n} : NRef h h' n n
  | arr {sz els els'} (hl : els'.length = els.length) (hz : ∀ i, i < els.length → (els'.getD i []).length = sz) (hr : ∀ i j, i < els.length → j < sz → Ref h h' (g (els.getD i []) j) (g (els'.getD i []) j)) : NRef h h' (.arr sz els) (.arr sz els')
def HRef (h h' : Heap) : Prop := ∀ id n', h' id = some n' → ∃ n, h id = some n ∧ NRef h h' n n'
def Wk (σ : List AV) (h : Heap) (K : List AV → Heap → Prop) : Prop :=
  ∃ σ' h', HRef h h' ∧ σ'.length = σ.length ∧ (∀ j, j < σ.length → Ref h h' (g σ j) (g σ' j)) ∧ K σ' h'
def ACalls (P : Program) (f : FuncId) (args : List AV) (h : Heap) (Q : AV → Heap → Prop) : Prop :=
  (∃ fn c, P.funcs[f]? = some fn ∧ fn.body = some c ∧ (fn.name == "runtime.NumGoroutine") = false) ∧
  ∀ (w : World) (C : Cx) (vs : Array Value), MRel w C h → vs.size = args.length → (∀ j, j < args.length → Rep w C (g args j) (vs.getD j undef)) →
    Calls P f vs w fun e w' => ∃ v C' h' r, e = .returned v ∧ Ev w C h w' C' h' ∧ Rep w' C' r v ∧ Q r h'
def callS (P : Program) (f : FuncId) (args : List AV) (h : Heap) (k : AV → Heap → Prop) : Prop := Wk args h fun args' h' => ACalls P f args' h' k
def callV (P : Program) (f : AV) (args : List AV) (h : Heap) (k : AV → Heap → Prop) : Prop := match f with
  | .fn f caps => callS P f (args ++ caps) h k
  | _ => False
def loopS (body : List AV → Heap → (List AV → Heap → Prop) → Prop) (σ : List AV) (h : Heap) : Prop :=
  ∃ I : Nat → List AV → Heap → Prop, Wk σ h (fun σ h => ∃ n, I n σ h) ∧
    ∀ n σ' h, I n σ' h → σ'.length = σ.length → body σ' h fun σ' h' => Wk σ' h' fun σ' h' => ∃ m, m < n ∧ I m σ' h'
def retA (v : AV) (h : Heap) (Q : AV → Heap → Prop) : Prop := Wk [v] h fun r h => Q (g r 0) h
inductive TV where
  | av (v : AV)
  | ag (cs : List AV)
  | bl (b : Bool)
  | loc (t off : Nat)
  | und
  | dead
def H0 : Prop := False
def H1 : Prop := H0
def H2 : Prop := H1
def H3 : Prop := H2
def H4 : Prop := H3
def H5 : Prop := H4
def H6 : Prop := H5
def H7 : Prop := H6
def H8 : Prop := H7
def H9 : Prop := H8
def H10 : Prop := H9
def H11 : Prop := H10
def H12 : Prop := H11
def H13 : Prop := H12
def H14 : Prop := H13
def H15 : Prop := H14
def H16 : Prop := H15
def H17 : Prop := H16
def H18 : Prop := H17
def H19 : Prop := H18
def H20 : Prop := H19
def H21 : Prop := H20
def H22 : Prop := H21
def H23 : Prop := H22
def H24 : Prop := H23
def H25 : Prop := H24
def H26 : Prop := H25
def H27 : Prop := H26
def H28 : Prop := H27
def H29 : Prop := H28
def H30 : Prop := H29
def H31 : Prop := H30
def H32 : Prop := H31
def H33 : Prop := H32
def H34 : Prop := H33
def H35 : Prop := H34
def H36 : Prop := H35
def H37 : Prop := H36
def H38 : Prop := H37
def H39 : Prop := H38
def H40 : Prop := H39
def H41 : Prop := H40
def H42 : Prop := H41
def H43 : Prop := H42
def H44 : Prop := H43
def H45 : Prop := H44
def H46 : Prop := H45
def H47 : Prop := H46
def H48 : Prop := H47
def H49 : Prop := H48
def H50 : Prop := H49
def H51 : Prop := H50
def H52 : Prop := H51
def H53 : Prop := H52
def H54 : Prop := H53
def H55 : Prop := H54
def H56 : Prop := H55
def H57 : Prop := H56
def H58 : Prop := H57
def H59 : Prop := H58
def H60 : Prop := H59
def FF : Prop := H60
def DD : TV := (fun (_ : Prop) => TV.dead) FF
def up {α : Sort _} (a : α) : α := (fun (_ : Prop) => a) FF
abbrev Env := List TV
abbrev Loc := List (Nat × List AV)
abbrev K := Env → Loc → Heap → Prop
structure Fz where
  t : Option (List Nat)
  l : List Nat
  a : List Nat
  d : Bool
  g : List Nat
def nmem (l : List Nat) (y : Nat) : Bool := List.rec false (fun x _ ih => match Nat.beq x y with | true => true | false => ih) l
def may (l : Option (List Nat)) (y : Nat) : Bool := match l with
  | none => true
  | some l => nmem l y
def mays (l : Option (List Nat)) (ys : List Nat) : Bool := List.rec true (fun y _ ih => match may l y with | true => ih | false => false) ys
def setK {α : Type} (l : List α) : Nat → α → (List α → Prop) → Prop :=
  List.rec (fun _ _ k => up (k [])) (fun x xs ih n v k => Nat.rec (k (v :: xs)) (fun m _ => ih m v fun ys => k (x :: ys)) n) l
def takeK {α : Type} : List α → Nat → (List α → Prop) → Prop
  | _, 0, k => k []
  | x :: xs, n + 1, k => takeK xs n fun ys => k (x :: ys)
  | [], _ + 1, _ => FF
def exactK {α : Type} : List α → Nat → (List α → Prop) → Prop
  | [], 0, k => up (k [])
  | x :: xs, n + 1, k => exactK xs n fun ys => k (x :: ys)
  | _, _, _ => FF
def lkp (l : List (Nat × List AV)) (u : Nat) : Option (List AV) := List.rec (up none) (fun x _ ih => match Nat.beq x.1 u with | true => some x.2 | false => ih) l
def nth (l : List TV) : Nat → TV := List.rec (fun _ => DD) (fun x _ ih n => Nat.rec x (fun m _ => ih m) n) l
def lsetK : List (Nat × List AV) → Nat → List AV → (List (Nat × List AV) → Prop) → Prop
  | [], u, cs, k => up (k [(u, cs)])
  | (t, ds) :: r, u, cs, k => match Nat.beq t u with
    | true => k ((t, cs) :: r)
    | false => lsetK r u cs fun r' => k ((t, ds) :: r')
def spliceK : List AV → Nat → List AV → (List AV → Prop) → Prop
  | cs, _, [], k => up (k cs)
  | cs, off, x :: xs, k => setK cs off x fun cs => spliceK cs (off + 1) xs k
def killK : List TV → Nat → (List TV → Prop) → Prop
  | [], _, k => up (k [])
  | x :: xs, t, k => killK xs t fun ys => match x with
    | .loc u o => match Nat.beq u t with
      | true => k (.dead :: ys)
      | false => k (.loc u o :: ys)
    | .av v => k (.av v :: ys)
    | .ag v => k (.ag v :: ys)
    | .bl v => k (.bl v :: ys)
    | .und => k (.und :: ys)
    | .dead => k (.dead :: ys)
def cAV : Value → TV
  | .bool b => .bl b
  | .slice none 0 0 => .av .e0
  | v => match plain v with
    | true => .av (.val v)
    | false => DD
def ev (env : Env) : Operand → TV
  | .tmp t => nth env t
  | .const v => cAV v
  | .func f => .av (.fn f [])
  | .global _ => DD
def asAV (x : TV) (k : AV → Prop) : Prop := match x with
  | .av v => k v
  | .ag cs => k (.agg cs)
  | .bl b => k (B b)
  | .loc _ _ => FF
  | .und => FF
  | .dead => FF
def asAVs : List TV → (List AV → Prop) → Prop
  | [], k => up (k [])
  | x :: xs, k => asAV x fun v => asAVs xs fun vs => k (v :: vs)
def cellsK (ti : TyI) (x : TV) (k : List AV → Prop) : Prop := match ti.agg with
  | true => match x with
    | .ag cs => exactK cs ti.sz k
    | .av v => aggA ti.sz v fun cs => k (gets cs 0 ti.sz)
    | _ => FF
  | false => match x with
    | .bl b => k [B b]
    | .av v => oneA v (k [v])
    | _ => FF
def cellsKs (ti : TyI) : List TV → (List (List AV) → Prop) → Prop
  | [], k => up (k [])
  | x :: xs, k => cellsK ti x fun c => cellsKs ti xs fun cs => k (c :: cs)
def putK (fz : Fz) (env : Env) (dst : Option Tmp) (v : TV) (k : Env → Prop) : Prop := match dst with
  | none => k env
  | some d => match may fz.t d with
    | false => FF
    | true => match nmem fz.g d with
      | false => setK env d v k
      | true => match v with
        | .av c => brA c (setK env d (.bl true) k) (setK env d (.bl false) k)
        | _ => setK env d v k
def varK (fz : Fz) (env : Env) (loc : Loc) (dst : Option Tmp) (cells : List AV) (k : Env → Loc → Prop) : Prop := match dst with
  | none => FF
  | some d => match may fz.t d with
    | false => FF
    | true => match nmem fz.a d with
      | true => FF
      | false => killK env d fun env => setK env d (.loc d 0) fun env => lsetK loc d cells fun loc => k env loc
def hasLoc (l : List TV) (d : Nat) : Bool := List.rec false (fun x _ ih => match x with
  | .loc u _ => match Nat.beq u d with
    | true => true
    | false => ih
  | _ => ih) l
def drK (fz : Fz) (own : List Nat) (dst : Option Tmp) (p : AV) (k : Prop) : Prop := match fz.d with
  | false => up k
  | true => match nmem own (dst.getD 0) with
    | true => k
    | false => fixA p k
def varC (fz : Fz) (env : Env) (loc : Loc) (dst : Option Tmp) (k : Prop) : Prop := match fz.d with
  | false => k
  | true => match dst with
    | none => FF
    | some d => match lkp loc d with
      | some _ => FF
      | none => match hasLoc env d with
        | true => FF
        | false => k
structure Ann where
  tm : List Nat
  lc : List Nat
  wr : List Nat
structure Cfg where
  T : List TyI
  esc : List Nat
  loops : List (Nat × Ann)
  draws : List (Nat × List Nat)
  own : List Nat
  gds : List Nat
def Cfg.ty (c : Cfg) (t : Nat) : TyI := c.T.getD t default
def optK (e : Operand → TV) : Option Operand → (Option AV → Prop) → Prop
  | none, k => up (k none)
  | some x, k => asAV (e x) fun v => k (some v)
def buildK (cf : Cfg) (e : Operand → TV) (ti : TyI) : List (Nat × Operand) → List AV → (List AV → Prop) → Prop
  | [], cs, k => up (k cs)
  | (i, x) :: rest, cs, k => cellsK (cf.ty (ti.flds.getD i (0, 0)).2) (e x) fun ds => spliceK cs (ti.flds.getD i (0, 0)).1 ds fun cs => buildK cf e ti rest cs k
def ksOf (ti : TyI) : List TK := match ti.agg with
  | true => ti.eq
  | false => [ti.kd]
def unc (a : Bool) (cs : List AV) : AV := match a with
  | true => .agg cs
  | false => g cs 0
def aop (P : Program) (cf : Cfg) (fz : Fz) (o : Oper) (env : Env) (loc : Loc) (h : Heap) (k : K) : Prop := match o.op with
  | .move x | .assign x => putK fz env o.dst (ev env x) fun env => k env loc h
  | .pick c a b => match ev env c with
    | .bl true => putK fz env o.dst (ev env a) fun env => k env loc h
    | .bl false => putK fz env o.dst (ev env b) fun env => k env loc h
    | .av c => brA c (putK fz env o.dst (ev env a) fun env => k env loc h) (putK fz env o.dst (ev env b) fun env => k env loc h)
    | _ => FF
  | .box t x => cellsK (cf.ty t) (ev env x) fun cs => match nmem cf.esc (o.dst.getD 0) with
    | true => newA (cf.ty t).sz cs h fun p h => putK fz env o.dst (.av p) fun env => k env loc h
    | false => varC fz env loc o.dst (varK fz env loc o.dst cs fun env loc => k env loc h)
  | .alloc t => match nmem cf.esc (o.dst.getD 0) with
    | true => newA (cf.ty t).sz (cf.ty t).zero h fun p h => putK fz env o.dst (.av p) fun env => k env loc h
    | false => varC fz env loc o.dst (varK fz env loc o.dst (cf.ty t).zero fun env loc => k env loc h)
  | .load t x => match ev env x with
    | .loc v off => match lkp loc v with
      | some cs => match (cf.ty t).agg with
        | true => takeK (cs.drop off) (cf.ty t).sz fun cs => putK fz env o.dst (.ag cs) fun env => k env loc h
        | false => takeK (cs.drop off) 1 fun cs => putK fz env o.dst (.av (g cs 0)) fun env => k env loc h
      | none => FF
    | .av p => drK fz cf.own o.dst p (match (cf.ty t).agg with
      | true => loadG (cf.ty t).sz p h fun cs => putK fz env o.dst (.ag (gets cs 0 (cf.ty t).sz)) fun env => k env loc h
      | false => loadV p h fun v => putK fz env o.dst (.av v) fun env => k env loc h)
    | _ => FF
  | .store t x v => cellsK (cf.ty t) (ev env v) fun cs => match ev env x with
    | .loc u off => match nmem fz.l u with
      | true => FF
      | false => match lkp loc u with
        | some ds => takeK (ds.drop off) (cf.ty t).sz fun _ => spliceK ds off cs fun ds => lsetK loc u ds fun loc => putK fz env o.dst .dead fun env => k env loc h
        | none => FF
    | .av p => storeG p cs h fun h => putK fz env o.dst .dead fun env => k env loc h
    | _ => FF
  | .nilCheck x => match ev env x with
    | .loc t off => putK fz env o.dst (.loc t off) fun env => k env loc h
    | .av v => nilA v (putK fz env o.dst (.av v) fun env => k env loc h)
    | _ => FF
  | .fieldAddr t x f => match ev env x with
    | .loc u off => putK fz env o.dst (.loc u (off + ((cf.ty t).flds.getD f (0, 0)).1)) fun env => k env loc h
    | .av p => fldA ((cf.ty t).flds.getD f (0, 0)).1 p fun p => putK fz env o.dst (.av p) fun env => k env loc h
    | _ => FF
  | .indexAddr t x i => asAV (ev env x) fun x => asAV (ev env i) fun i => drK fz cf.own o.dst x (idxA (cf.ty (cf.ty t).elem).sz x i h fun p => putK fz env o.dst (.av p) fun env => k env loc h)
  | .index _ x i => asAV (ev env x) fun x => asAV (ev env i) fun i => strA x i fun v => putK fz env o.dst (.av v) fun env => k env loc h
  | .binOp op t x y _ => asAV (ev env x) fun x => asAV (ev env y) fun y => match (cf.ty t).agg, op with
    | true, .eql => eqA (cf.ty t).eq false x y fun v => putK fz env o.dst (.av v) fun env => k env loc h
    | true, .neq => eqA (cf.ty t).eq true x y fun v => putK fz env o.dst (.av v) fun env => k env loc h
    | true, _ => FF
    | false, op => match (cf.ty t).kd, op with
      | .bool, .eql => eqbA false x y fun v => putK fz env o.dst (.av v) fun env => k env loc h
      | .bool, .neq => eqbA true x y fun v => putK fz env o.dst (.av v) fun env => k env loc h
      | .bool, _ => FF
      | _, op => binA op x y fun v => putK fz env o.dst (.av v) fun env => k env loc h
  | .unOp .not _ x => asAV (ev env x) fun x => notA x fun v => putK fz env o.dst (.av v) fun env => k env loc h
  | .extract x i => asAV (ev env x) fun x => tupA x i fun v => putK fz env o.dst (.av v) fun env => k env loc h
  | .build t parts => buildK cf (ev env) (cf.ty t) parts.toList (cf.ty t).zero fun cs => takeK cs (cf.ty t).sz fun cs => putK fz env o.dst (.ag cs) fun env => k env loc h
  | .buildSlice t n parts => match Nat.beq n parts.size with
    | true => match n with
      | 0 => putK fz env o.dst (.av .e0) fun env => k env loc h
      | _ => cellsKs (cf.ty (cf.ty t).elem) (parts.toList.map fun p => ev env p.2) fun els => putK fz env o.dst (.av (.rs (cf.ty (cf.ty t).elem).sz els)) fun env => k env loc h
    | false => FF
  | .makeSlice t n c => asAV (ev env n) fun n => asAV (ev env c) fun c => mkA (cf.ty (cf.ty t).elem).sz (cf.ty (cf.ty t).elem).bytes (cf.ty (cf.ty t).elem).zero n c h fun v h => putK fz env o.dst (.av v) fun env => k env loc h
  | .slice t x lo hi mx => match mx with
    | none => asAV (ev env x) fun x => optK (ev env) lo fun lo => optK (ev env) hi fun hi => sliceA (cf.ty (cf.ty t).elem).sz x lo hi fun v => putK fz env o.dst (.av v) fun env => k env loc h
    | some mx => match lo, hi with
      | none, some hi => asAV (ev env x) fun x => asAV (ev env hi) fun hi => asAV (ev env mx) fun mx => sl3A (cf.ty (cf.ty t).elem).sz x hi mx fun v => putK fz env o.dst (.av v) fun env => k env loc h
      | _, _ => FF
  | .convert _ t x => match (cf.ty t).kd with
    | .int kd => asAV (ev env x) fun x => convA kd x fun v => putK fz env o.dst (.av v) fun env => k env loc h
    | _ => FF
  | .makeMap _ r => match r with
    | none => newM h fun v h => putK fz env o.dst (.av v) fun env => k env loc h
    | some _ => FF
  | .lookup t m x ok => match (cf.ty t).kd with
    | .map kt et => asAV (ev env m) fun m => cellsK (cf.ty kt) (ev env x) fun cs => lookA (ksOf (cf.ty kt)) ok (unc (cf.ty et).agg (cf.ty et).zero) m (unc (cf.ty kt).agg cs) h fun v => putK fz env o.dst (.av v) fun env => k env loc h
    | _ => FF
  | .mapUpdate t m x v => match (cf.ty t).kd with
    | .map kt et => asAV (ev env m) fun m => cellsK (cf.ty kt) (ev env x) fun cs => cellsK (cf.ty et) (ev env v) fun vs => updA (ksOf (cf.ty kt)) m (unc (cf.ty kt).agg cs) (unc (cf.ty et).agg vs) h fun h => putK fz env o.dst .dead fun env => k env loc h
    | _ => FF
  | .mapEntry t m x => match (cf.ty t).kd with
    | .map kt et => asAV (ev env m) fun m => cellsK (cf.ty kt) (ev env x) fun cs => entA (ksOf (cf.ty kt)) (unc (cf.ty et).agg (cf.ty et).zero) m (unc (cf.ty kt).agg cs) h fun v h => putK fz env o.dst (.av v) fun env => k env loc h
    | _ => FF
  | .entryStore t m i v => match (cf.ty t).kd with
    | .map kt et => asAV (ev env m) fun m => asAV (ev env i) fun i => cellsK (cf.ty et) (ev env v) fun vs => entS m i (unc (cf.ty et).agg vs) h fun h => putK fz env o.dst .dead fun env => k env loc h
    | _ => FF
  | .range t m => match (cf.ty t).kd with
    | .map _ _ => asAV (ev env m) fun m => rangeA m h fun v h => putK fz env o.dst (.av v) fun env => k env loc h
    | _ => FF
  | .next it str => match str with
    | false => asAV (ev env it) fun it => nextA it h fun v h => putK fz env o.dst (.av v) fun env => k env loc h
    | true => FF
  | .entry it => asAV (ev env it) fun it => entryA it h fun v => putK fz env o.dst (.av v) fun env => k env loc h
  | .makeFunc (.func f) first caps => match first.size with
    | 0 => asAVs (caps.toList.map (ev env)) fun caps => putK fz env o.dst (.av (.fn f caps)) fun env => k env loc h
    | _ => FF
  | .call { callee := .builtin .len, args, argTypes } => match args.toList, argTypes.toList with
    | [x], [t] => match (cf.ty t).kd with
      | .str => asAV (ev env x) fun x => lenS x fun v => putK fz env o.dst (.av v) fun env => k env loc h
      | .map _ _ => asAV (ev env x) fun x => lenM x h fun v => putK fz env o.dst (.av v) fun env => k env loc h
      | .other => asAV (ev env x) fun x => lenA x fun v => putK fz env o.dst (.av v) fun env => k env loc h
      | _ => FF
    | _, _ => FF
  | .call { callee := .builtin .append, args, argTypes } => match args.toList, argTypes.toList with
    | [x, y], [t, u] => match Nat.beq t u with
      | true => asAV (ev env x) fun x => asAV (ev env y) fun y => appA (cf.ty (cf.ty t).elem).sz (cf.ty (cf.ty t).elem).bytes x y h fun v h => putK fz env o.dst (.av v) fun env => k env loc h
      | false => FF
    | _, _ => FF
  | .call { callee := .builtin .max, args, .. } => match args.toList with
    | [x, y] => asAV (ev env x) fun x => asAV (ev env y) fun y => maxA x y fun v => putK fz env o.dst (.av v) fun env => k env loc h
    | _ => FF
  | .call { callee := .builtin .min, args, .. } => match args.toList with
    | [x, y] => asAV (ev env x) fun x => asAV (ev env y) fun y => minA x y fun v => putK fz env o.dst (.av v) fun env => k env loc h
    | _ => FF
  | .call { callee := .value (.func f), args, .. } => asAVs (args.toList.map (ev env)) fun args => callS P f args h fun r h => putK fz env o.dst (.av r) fun env => k env loc h
  | .call { callee := .value (.tmp t), args, .. } => asAV (nth env t) fun f => asAVs (args.toList.map (ev env)) fun args => callV P f args h fun r h => putK fz env o.dst (.av r) fun env => k env loc h
  | _ => FF
def grdK (fz : Fz) (env : Env) (t : Nat) (want : Bool) (yes no : Env → Prop) : Prop := match nth env t with
  | .bl b => match b, want with
    | true, true | false, false => yes env
    | _, _ => no env
  | .av c => match may fz.t t with
    | false => FF
    | true => match fz.d with
      | false => brA c (setK env t (.bl true) fun env => match want with | true => yes env | false => no env)
        (setK env t (.bl false) fun env => match want with | true => no env | false => yes env)
      | true => FF
  | .und => no env
  | _ => FF
def dstOf (ops : Array Oper) (j : Nat) : Option Tmp := (ops[j]?).bind (·.dst)
def pos : Nat → Bool
  | 0 => false
  | _ + 1 => true
def posAll (cf : Cfg) (ti : TyI) (l : List (Nat × Operand)) : Bool := List.rec true (fun x _ ih => match pos (cf.ty (ti.flds.getD x.1 (0, 0)).2).sz with | true => ih | false => false) l
def denseB (l : List (Nat × Operand)) : Nat → Bool := List.rec (fun _ => true) (fun x _ ih n => match Nat.beq x.1 n with | true => ih (n + 1) | false => false) l
def both (a b : Bool) : Bool := match a with | true => b | false => false
def someB {α : Type} : List α → Bool
  | [] => false
  | _ :: _ => true
def basicK : TK → Bool
  | .bool | .str | .int _ => true
  | _ => false
def keyTy (ti : TyI) : Bool := both (pos ti.sz) (match ti.agg with
  | true => someB ti.eq
  | false => basicK ti.kd)
def mapTy (cf : Cfg) (t : TypeId) : Bool := both (pos (cf.ty t).sz) (match (cf.ty t).kd with
  | .map kt et => both (keyTy (cf.ty kt)) (pos (cf.ty et).sz)
  | _ => false)
def opTy (cf : Cfg) (o : Oper) : Bool := match o.op with
  | .load t _ | .store t _ _ | .box t _ | .alloc t => pos (cf.ty t).sz
  | .binOp _ t _ _ _ => both (pos (cf.ty t).sz) (match (cf.ty t).agg with
    | true => someB (cf.ty t).eq
    | false => true)
  | .slice t _ _ _ _ => match pos (cf.ty t).sz with
    | true => match (cf.ty (cf.ty t).elem).sz with
      | 0 => match (cf.ty t).kd with
        | .str => true
        | _ => false
      | _ + 1 => true
    | false => false
  | .convert s t _ => both (pos (cf.ty s).sz) (pos (cf.ty t).sz)
  | .lookup t _ _ _ | .mapUpdate t _ _ _ | .mapEntry t _ _ | .entryStore t _ _ _ => mapTy cf t
  | .range t _ => pos (cf.ty t).sz
  | .index t _ _ => match pos (cf.ty t).sz, (cf.ty t).kd with
    | true, .str => true
    | _, _ => false
  | .fieldAddr t _ f => match pos (cf.ty t).sz, (cf.ty t).arr with
    | true, false => pos (cf.ty ((cf.ty t).flds.getD f (0, 0)).2).sz
    | _, _ => false
  | .build t parts => match pos (cf.ty t).sz, (cf.ty t).agg with
    | true, true => posAll cf (cf.ty t) parts.toList
    | _, _ => false
  | .buildSlice t n parts => both (pos (cf.ty t).sz) (both (pos (cf.ty (cf.ty t).elem).sz) (both (Nat.ble (n * (cf.ty (cf.ty t).elem).sz) 16777216) (denseB parts.toList 0)))
  | .makeSlice t _ _ => both (pos (cf.ty t).sz) (both (pos (cf.ty (cf.ty t).elem).sz) (pos (cf.ty (cf.ty t).elem).bytes))
  | .indexAddr t _ _ => match pos (cf.ty t).sz with
    | true => pos (cf.ty (cf.ty t).elem).sz
    | false => false
  | .call { callee := .builtin .len, argTypes, .. } => match argTypes.toList with
    | t :: _ => match pos (cf.ty t).sz with
      | true => match (cf.ty t).kd with
        | .str => true
        | .map _ _ => true
        | _ => pos (cf.ty (cf.ty t).elem).sz
      | false => false
    | _ => false
  | .call { callee := .builtin .append, argTypes, .. } => match argTypes.toList with
    | t :: _ => both (pos (cf.ty t).sz) (both (pos (cf.ty (cf.ty t).elem).sz) (pos (cf.ty (cf.ty t).elem).bytes))
    | _ => false
  | _ => true
def awpOps (P : Program) (cf : Cfg) (fz : Fz) (ops : Array Oper) (l : List Oper) (k : K) : K := List.rec k (fun o _ ih env loc h => match opTy cf o with
    | false => FF
    | true => match o.guard with
      | none => aop P cf fz o env loc h ih
      | some (j, want) => match dstOf ops j with
        | none => FF
        | some t => grdK fz env t want (fun env => aop P cf fz o env loc h ih) (fun env => putK fz env o.dst .und fun env => ih env loc h)) l
inductive AExit where
  | normal
  | exit (id : Nat)
  | ret
def Code.key : Code → Nat
  | .region id _ _ => id
  | .seq a _ => Code.key a
  | .block _ c => Code.key c
  | .loop c => Code.key c
  | _ => 0
def ann : List (Nat × Ann) → Nat → Option Ann
  | [], _ => none
  | (a, x) :: r, b => match Nat.beq a b with
    | true => some x
    | false => ann r b
def projT (env : Env) : List Nat → (List AV → Prop) → Prop
  | [], k => up (k [])
  | t :: ts, k => asAV (nth env t) fun v => projT env ts fun vs => k (v :: vs)
def projL (loc : Loc) : List Nat → (List AV → Prop) → Prop
  | [], k => up (k [])
  | t :: ts, k => match lkp loc t with
    | some cs => projL loc ts fun vs => k (cs ++ vs)
    | none => FF
def killsK (env : Env) : List Nat → (Env → Prop) → Prop
  | [], k => up (k env)
  | t :: ts, k => setK env t .dead fun env => killsK env ts k
def injT (σ : List AV) (env : Env) : Nat → List Nat → (Env → Nat → Prop) → Prop
  | n, [], k => up (k env n)
  | n, t :: ts, k => setK env t (.av (g σ n)) fun env => injT σ env (n + 1) ts k
def injL (σ : List AV) (loc : Loc) : Nat → List Nat → (Loc → Prop) → Prop
  | _, [], k => up (k loc)
  | n, t :: ts, k => match lkp loc t with
    | some cs => lsetK loc t (gets σ n cs.length) fun loc => injL σ loc (n + cs.length) ts k
    | none => FF
def keysK : Loc → List Nat → (List Nat → Prop) → Prop
  | [], a, k => up (k a)
  | (t, _) :: r, a, k => keysK r (t :: a) k
def restK (ys : List Nat) : Loc → List Nat → (List Nat → Prop) → Prop
  | [], a, k => up (k a)
  | (t, _) :: r, a, k => match nmem ys t with
    | true => restK ys r a k
    | false => restK ys r (t :: a) k
def loopCk (fz : Fz) (an : Ann) : Bool := match mays fz.t an.wr with
  | true => match mays (some an.wr) an.tm with
    | true => List.rec true (fun t _ ih => match nmem fz.l t with | true => false | false => ih) an.lc
    | false => false
  | false => false
def annO : List (Nat × List Nat) → Nat → Option (List Nat)
  | [], _ => none
  | (a, x) :: r, b => match Nat.beq a b with
    | true => some x
    | false => annO r b
def onth (l : List Oper) : Nat → Oper := List.rec (fun _ => default) (fun x _ ih n => Nat.rec x (fun m _ => ih m) n) l
def pickOps (l : List Oper) : List Nat → List Oper
  | [] => []
  | i :: r => onth l i :: pickOps l r
def chkD (P : Program) (cf : Cfg) (fz : Fz) (ops : Array Oper) (o : Oper) (env : Env) (loc : Loc) (h : Heap) : Prop := match o.dst with
  | none => FF
  | some d => awpOps P cf fz ops [o] (fun env2 _ _ => nth env2 d = nth env d) env loc h
def awpL (P : Program) (cf : Cfg) (fz : Fz) (ops : Array Oper) (l : List Nat) (k : K) : K := List.rec k (fun c _ ih env loc h => match Nat.blt ops.size c with
    | true => chkD P cf fz ops (onth ops.toList (Nat.sub c (Nat.succ ops.size))) env loc h ∧ ih env loc h
    | false => awpOps P cf fz ops [onth ops.toList c] ih env loc h) l
def preM (m : Nat) : List Nat → List Nat
  | [] => []
  | i :: r => match Nat.beq i m with
    | true => []
    | false => i :: preM m r
def postM (m : Nat) : List Nat → Option (List Nat)
  | [] => none
  | i :: r => match Nat.beq i m with
    | true => some r
    | false => postM m r
def edges (o : Oper) : List Nat := (o.after.toList.filter (Region.binds .any)).map (·.on)
def remE (i : Nat) (l : List Nat) : List Nat := List.rec [] (fun x _ ih => match Nat.beq x i with | true => ih | false => x :: ih) l
def readyB (ops : Array Oper) (rem : List Nat) (i : Nat) : Bool := List.rec true (fun j _ ih => match nmem rem j with | true => false | false => ih) (edges (onth ops.toList i))
def awpAll (P : Program) (cf : Cfg) (fz : Fz) (ops : Array Oper) (k : K) : Nat → List Nat → K
  | 0, _ => k
  | n + 1, rem => match rem with
    | [] => k
    | _ :: _ => fun env loc h => List.rec (motive := fun _ => Prop) True (fun i _ ih => match readyB ops rem i with
      | true => awpOps P cf fz ops [onth ops.toList i] (awpAll P cf fz ops k n (remE i rem)) env loc h ∧ ih
      | false => ih) rem
def awpReg (P : Program) (cf : Cfg) (fz : Fz) (ops : Array Oper) (ord : List Nat) (k : K) : K := fun env loc h => match postM ops.size ord with
  | none => awpL P cf fz ops ord k env loc h
  | some r => match postM ops.size r with
    | none => FF
    | some y => match preM ops.size r with
      | [] => awpOps P cf fz ops (pickOps ops.toList (preM ops.size ord)) (awpAll P cf fz ops k y.length y) env loc h
      | x :: xs => awpOps P cf fz ops (pickOps ops.toList (preM ops.size ord)) (fun env loc h => awpOps P cf fz ops (pickOps ops.toList (x :: xs)) k env loc h ∧ awpOps P cf fz ops (pickOps ops.toList y) k env loc h) env loc h
abbrev KE := AExit → K
def awp (P : Program) (cf : Cfg) : Code → Fz → KE → K
  | .skip, _, Q, env, loc, h => Q .normal env loc h
  | .region id ops dr, fz, Q, env, loc, h => match dr with
    | false => awpOps P cf fz ops ops.toList (Q .normal) env loc h
    | true => match annO cf.draws id with
      | some ord => awpReg P cf ⟨fz.t, fz.l, fz.a, true, cf.gds⟩ ops ord (Q .normal) env loc h
      | none => FF
  | .seq a b, fz, Q, env, loc, h => awp P cf a fz (fun e env loc h => match e with | .normal => awp P cf b fz Q env loc h | .exit i => Q (.exit i) env loc h | .ret => Q .ret env loc h) env loc h
  | .cond c a b, fz, Q, env, loc, h => match ev env c with
    | .bl true => awp P cf a fz Q env loc h
    | .bl false => awp P cf b fz Q env loc h
    | .av c => brA c (awp P cf a fz Q env loc h) (awp P cf b fz Q env loc h)
    | _ => FF
  | .block id c, fz, Q, env, loc, h => awp P cf c fz (fun e env loc h => match e with
      | .exit i => match Nat.beq i id with
        | true => Q .normal env loc h
        | false => Q (.exit i) env loc h
      | .normal => Q .normal env loc h
      | .ret => Q .ret env loc h) env loc h
  | .loop c, fz, Q, env, loc, h => match ann cf.loops (Code.key c) with
    | none => FF
    | some an => projT env an.tm fun σt => projL loc an.lc fun σl => killsK env an.wr fun env0 =>
        keysK loc fz.a fun ka => restK an.lc loc fz.l fun kl => match loopCk fz an with
        | true => loopS (fun σ h K => injT σ env0 0 an.tm fun env n => injL σ loc n an.lc fun loc =>
          awp P cf c ⟨some an.wr, kl, ka, false, []⟩ (fun e env loc h => match e with
            | .normal => projT env an.tm fun σt => projL loc an.lc fun σl => K (σt ++ σl) h
            | .exit i => Q (.exit i) env loc h
            | .ret => Q .ret env loc h) env loc h) (σt ++ σl) h
        | false => FF
  | .exit id, _, Q, env, loc, h => Q (.exit id) env loc h
  | .ret, _, Q, env, loc, h => Q .ret env loc h
  | _, _, _, _, _, _ => FF
def resK (cf : Cfg) (env : Env) (loc : Loc) (h : Heap) : List ResultVar → (List AV → Prop) → Prop
  | [], k => up (k [])
  | .tmp t :: rs, k => asAV (nth env t) fun v => resK cf env loc h rs fun vs => k (v :: vs)
  | .cell t ty :: rs, k => match nth env t with
    | .loc u off => match lkp loc u with
      | some cs => match (cf.ty ty).agg with
        | true => takeK (cs.drop off) (cf.ty ty).sz fun cs => resK cf env loc h rs fun vs => k (.agg cs :: vs)
        | false => takeK (cs.drop off) 1 fun cs => resK cf env loc h rs fun vs => k (g cs 0 :: vs)
      | none => FF
    | .av p => match (cf.ty ty).agg with
      | true => loadG (cf.ty ty).sz p h fun cs => resK cf env loc h rs fun vs => k (.agg (gets cs 0 (cf.ty ty).sz) :: vs)
      | false => loadV p h fun v => resK cf env loc h rs fun vs => k (v :: vs)
    | _ => FF
def retV : List AV → AV
  | [v] => up v
  | vs => .tup vs
def retQ (cf : Cfg) (rs : List ResultVar) (Q : AV → Heap → Prop) : KE
  | .exit _, _, _, _ => FF
  | .normal, env, loc, h => resK cf env loc h rs fun vs => retA (retV vs) h Q
  | .ret, env, loc, h => resK cf env loc h rs fun vs => retA (retV vs) h Q
def deadsK : Nat → (List TV → Prop) → Prop
  | 0, k => up (k [])
  | n + 1, k => deadsK n fun l => k (.dead :: l)
def envK : List AV → Nat → (List TV → Prop) → Prop
  | [], n, k => deadsK n k
  | x :: xs, n, k => envK xs (n - 1) fun l => k (.av x :: l)
def abody (P : Program) (cf : Cfg) (fn : Func) (args : List AV) (h : Heap) (Q : AV → Heap → Prop) : Prop := match fn.body with
  | some c => envK args fn.ntmps fun env => awp P cf c ⟨none, [], [], false, []⟩ (retQ cf fn.results.toList Q) env [] h
  | none => FF
end
end Am
set_option linter.unusedVariables false
set_option linter.unusedSimpArgs false
namespace Am
open Go
theorem FF_eq : FF = False := rfl
theorem up_eq {α : Sort _} (a : α) : up a = a := rfl
theorem DD_eq : DD = TV.dead := rfl
theorem setK_eq {α : Type} : ∀ (l : List α) (n : Nat) (v : α) (k : List α → Prop), setK l n v k = k (l.set n v)
  | [], _, _, _ => rfl
  | _ :: _, 0, _, _ => rfl
  | x :: xs, n + 1, v, k => setK_eq xs n v fun ys => k (x :: ys)
theorem takeK_elim {α : Type} : ∀ {l : List α} {n : Nat} {k : List α → Prop}, takeK l n k → n ≤ l.length ∧ k (l.take n)
  | l, 0, k, h => ⟨Nat.zero_le _, by cases l <;> exact h⟩
  | x :: xs, n + 1, k, h => by
    have := takeK_elim (l := xs) (n := n) h
    exact ⟨by simp; omega, by simpa using this.2⟩
  | [], n + 1, k, h => (show False from h).elim
theorem exactK_elim {α : Type} : ∀ {l : List α} {n : Nat} {k : List α → Prop}, exactK l n k → l.length = n ∧ k l
  | [], 0, k, h => ⟨rfl, h⟩
  | x :: xs, n + 1, k, h => by
    have := exactK_elim (l := xs) (n := n) h
    exact ⟨by simp [this.1], this.2⟩
  | [], n + 1, k, h => (show False from h).elim
  | _ :: _, 0, k, h => (show False from h).elim
theorem nth_eq : ∀ (l : List TV) (n : Nat), nth l n = l.getD n .dead
  | [], _ => rfl
  | x :: xs, 0 => rfl
  | x :: xs, n + 1 => (nth_eq xs n).trans (by simp)
theorem nth_set (l : List TV) (n m : Nat) (v : TV) : nth (l.set n v) m = if n = m ∧ m < l.length then v else nth l m := by
  simp only [nth_eq, List.getD_eq_getElem?_getD]
  by_cases h : n = m
  · subst h
    by_cases h2 : n < l.length
    · simp [h2, List.getElem?_set_self h2]
    · simp [h2, List.getElem?_eq_none (Nat.le_of_not_lt h2), List.set_eq_of_length_le (Nat.le_of_not_lt h2)]
  · simp [h, List.getElem?_set_ne h]
theorem nbeq {a b : Nat} : Nat.beq a b = true ↔ a = b := ⟨Nat.eq_of_beq_eq_true, fun h => by subst h; simp⟩
theorem nbeq_f {a b : Nat} (h : Nat.beq a b = false) : a ≠ b := fun e => by subst e; simp at h
theorem nmem_eq : ∀ (l : List Nat) (y : Nat), nmem l y = true ↔ y ∈ l
  | [], y => by simp [nmem]
  | x :: xs, y => by
    have ih := nmem_eq xs y
    show (match Nat.beq x y with | true => true | false => nmem xs y) = true ↔ _
    cases h : Nat.beq x y with
    | true => simp [nbeq.1 h]
    | false =>
      have := nbeq_f h
      simp only [ih, List.mem_cons]
      exact ⟨.inr, fun h => h.resolve_left (fun e => this e.symm)⟩
theorem lkp_nil (u : Nat) : lkp [] u = none := rfl
theorem lkp_cons (x : Nat × List AV) (l : Loc) (u : Nat) : lkp (x :: l) u = if x.1 = u then some x.2 else lkp l u := by
  show (match Nat.beq x.1 u with | true => some x.2 | false => lkp l u) = _
  cases h : Nat.beq x.1 u with
  | true => simp [nbeq.1 h]
  | false => simp [nbeq_f h]
def lset : Loc → Nat → List AV → Loc
  | [], u, cs => [(u, cs)]
  | (t, ds) :: r, u, cs => if t = u then (t, cs) :: r else (t, ds) :: lset r u cs
theorem lsetK_eq : ∀ (l : Loc) (u : Nat) (cs : List AV) (k : Loc → Prop), lsetK l u cs k = k (lset l u cs)
  | [], _, _, _ => rfl
  | (t, ds) :: r, u, cs, k => by
    simp only [lsetK, lset]
    cases h : Nat.beq t u with
    | true => simp [nbeq.1 h]
    | false => simp [nbeq_f h, lsetK_eq r u cs]
theorem lkp_lset : ∀ (l : Loc) (u v : Nat) (cs : List AV), lkp (lset l u cs) v = if u = v then some cs else lkp l v
  | [], u, v, cs => by simp [lset, lkp_cons, lkp_nil]
  | (t, ds) :: r, u, v, cs => by
    simp only [lset]
    by_cases h : t = u
    · subst h
      by_cases h2 : t = v <;> simp [lkp_cons, h2]
    · simp only [h, if_false, lkp_cons, lkp_lset r u v cs]
      by_cases h2 : t = v
      · subst h2; simp [Ne.symm h]
      · simp [h2]
theorem spliceK_eq : ∀ (xs cs : List AV) (off : Nat) (k : List AV → Prop), spliceK cs off xs k = k (splice cs off xs)
  | [], cs, off, k => rfl
  | x :: xs, cs, off, k => by
    simp only [spliceK, setK_eq, splice]
    exact spliceK_eq xs _ _ k
theorem splice_length : ∀ (xs cs : List AV) (off : Nat), (splice cs off xs).length = cs.length
  | [], cs, off => rfl
  | x :: xs, cs, off => by simp [splice, splice_length xs]
theorem g_set (cs : List AV) (i j : Nat) (v : AV) (hi : i < cs.length) : g (cs.set i v) j = if j = i then v else g cs j := by
  unfold g
  simp only [List.getD_eq_getElem?_getD]
  by_cases h : j = i
  · subst h; simp [List.getElem?_set_self hi]
  · simp [h, List.getElem?_set_ne (Ne.symm h)]
theorem g_splice : ∀ (xs cs : List AV) (off j : Nat), off + xs.length ≤ cs.length → g (splice cs off xs) j = if off ≤ j ∧ j < off + xs.length then g xs (j - off) else g cs j
  | [], cs, off, j, h => by simp [splice]; omega
  | x :: xs, cs, off, j, h => by
    simp only [List.length_cons] at h
    rw [splice, g_splice xs _ _ _ (by simp; omega), g_set _ _ _ _ (by omega)]
    by_cases h1 : j = off
    · subst h1
      rw [if_neg (by omega), if_pos rfl, if_pos (by simp)]; simp [g]
    · by_cases h2 : off + 1 ≤ j ∧ j < off + 1 + xs.length
      · have : j - off = (j - (off + 1)) + 1 := by omega
        simp only [h2, List.length_cons, and_self, if_true]
        rw [if_pos (by omega), this]; simp [g]
      · rw [if_neg h2, if_neg h1, if_neg (by simp; omega)]
def kill1 (t : Nat) : TV → TV
  | .loc u o => if u = t then .dead else .loc u o
  | x => x
theorem killK_eq : ∀ (l : List TV) (t : Nat) (k : List TV → Prop), killK l t k = k (l.map (kill1 t))
  | [], _, _ => rfl
  | x :: xs, t, k => by
    simp only [killK, killK_eq xs t, List.map_cons]
    cases x with
    | loc u o =>
      simp only [kill1]
      cases h : Nat.beq u t with
      | true => simp [nbeq.1 h]
      | false => simp [nbeq_f h]
    | _ => rfl
theorem nth_map_kill (l : List TV) (t n : Nat) : nth (l.map (kill1 t)) n = kill1 t (nth l n) := by
  simp only [nth_eq, List.getD_eq_getElem?_getD, List.getElem?_map]
  cases l[n]? <;> simp [kill1]
theorem gets_length (cs : List AV) : ∀ (n j : Nat), (gets cs j n).length = n
  | 0, j => rfl
  | n + 1, j => by simp [gets, gets_length cs n]
theorem g_gets (cs : List AV) : ∀ (n j i : Nat), i < n → g (gets cs j n) i = g cs (j + i)
  | n + 1, j, 0, h => by simp [gets, g]
  | n + 1, j, i + 1, h => by
    have := g_gets cs n (j + 1) i (by omega)
    simp only [g, gets, List.getD_cons_succ] at this ⊢
    rw [this]; congr 1; omega
theorem killsK_eq : ∀ (ts : List Nat) (env : Env) (k : Env → Prop), killsK env ts k = k (ts.foldl (fun e t => e.set t .dead) env)
  | [], env, k => rfl
  | t :: ts, env, k => by simp only [killsK, setK_eq, List.foldl_cons]; exact killsK_eq ts _ k
theorem keysK_eq : ∀ (l : Loc) (a : List Nat) (k : List Nat → Prop), ∃ b, keysK l a k = k b ∧ ∀ t, t ∈ b ↔ t ∈ a ∨ (lkp l t).isSome
  | [], a, k => ⟨a, rfl, fun t => by simp [lkp_nil]⟩
  | (u, cs) :: r, a, k => by
    obtain ⟨b, h1, h2⟩ := keysK_eq r (u :: a) k
    refine ⟨b, h1, fun t => ?_⟩
    rw [h2, lkp_cons]
    by_cases h : u = t
    · subst h; simp
    · have h' : t ≠ u := Ne.symm h
      simp [h, h']
theorem restK_eq (ys : List Nat) : ∀ (l : Loc) (a : List Nat) (k : List Nat → Prop), ∃ b, restK ys l a k = k b ∧ ∀ t, t ∈ b ↔ t ∈ a ∨ ((lkp l t).isSome ∧ t ∉ ys)
  | [], a, k => ⟨a, rfl, fun t => by simp [lkp_nil]⟩
  | (u, cs) :: r, a, k => by
    simp only [restK]
    cases hu : nmem ys u with
    | true =>
      obtain ⟨b, h1, h2⟩ := restK_eq ys r a k
      refine ⟨b, h1, fun t => ?_⟩
      rw [h2, lkp_cons]
      have := (nmem_eq ys u).1 hu
      by_cases h : u = t
      · subst h; simp [this]
      · simp [h]
    | false =>
      obtain ⟨b, h1, h2⟩ := restK_eq ys r (u :: a) k
      refine ⟨b, h1, fun t => ?_⟩
      have hu' : u ∉ ys := fun h => by rw [(nmem_eq ys u).2 h] at hu; cases hu
      rw [h2, lkp_cons]
      by_cases h : u = t
      · subst h; simp [hu']
      · have h' : t ≠ u := Ne.symm h
        simp [h, h']
theorem mays_mem : ∀ {l : Option (List Nat)} {ys : List Nat}, mays l ys = true → ∀ y ∈ ys, may l y = true
  | l, [], _, y, h => by cases h
  | l, x :: xs, hm, y, h => by
    have hm' : (match may l x with | true => mays l xs | false => false) = true := hm
    cases hx : may l x with
    | false => rw [hx] at hm'; cases hm'
    | true =>
      rw [hx] at hm'
      rcases List.mem_cons.1 h with rfl | h
      · exact hx
      · exact mays_mem hm' y h
theorem fixA_elim {x : AV} {k : Prop} (h : fixA x k) : k := by
  unfold fixA at h
  split at h <;> first | exact h | exact h.elim
theorem drK_elim {fz : Fz} {own : List Nat} {dst : Option Tmp} {p : AV} {k : Prop} (h : drK fz own dst p k) : k := by
  unfold drK at h
  split at h
  · exact h
  · split at h
    · exact h
    · exact fixA_elim h
theorem varC_elim {fz : Fz} {env : Env} {loc : Loc} {dst : Option Tmp} {k : Prop} (h : varC fz env loc dst k) : k := by
  unfold varC at h
  split at h
  · exact h
  · split at h
    · exact h.elim
    · split at h
      · exact h.elim
      · split at h
        · exact h.elim
        · exact h
def asV : TV → Option AV
  | .av v => some v
  | .ag cs => some (.agg cs)
  | .bl b => some (B b)
  | _ => none
theorem asAV_elim {x : TV} {k : AV → Prop} (h : asAV x k) : ∃ v, asV x = some v ∧ k v := by
  cases x <;> first | exact ⟨_, rfl, h⟩ | exact (show False from h).elim
theorem asAVs_elim : ∀ {xs : List TV} {k : List AV → Prop}, asAVs xs k → ∃ vs, vs.length = xs.length ∧ (∀ j, j < xs.length → asV (nth xs j) = some (g vs j)) ∧ k vs
  | [], k, h => ⟨[], rfl, by simp, h⟩
  | x :: xs, k, h => by
    obtain ⟨v, h1, h2⟩ := asAV_elim h
    obtain ⟨vs, h3, h4, h5⟩ := asAVs_elim h2
    refine ⟨v :: vs, by simp [h3], fun j hj => ?_, h5⟩
    cases j with
    | zero => exact h1
    | succ j => exact h4 j (by simpa using hj)
end Am
set_option linter.unusedVariables false
set_option linter.unusedSimpArgs false
namespace Am
open Go
def zeroCk : AV → Value → Bool
  | .val (.int k n), .int k' m => k == k' && n == m
  | .val (.bool a), .bool b => a == b
  | .val (.string a), .string b => a.data.toList == b.data.toList
  | .val (.pointer none), .pointer none => true
  | .val (.map none), .map none => true
  | .val .nilFunc, .nilFunc => true
  | .val .nilIface, .nilIface => true
  | .e0, .slice _ 0 0 => true
  | _, _ => false
theorem zeroCk_rep {w : World} {C : Cx} {x : AV} {v : Value} (h : zeroCk x v = true) : Rep w C x v ∧ one v = true := by
  unfold zeroCk at h
  split at h <;> first
    | (rename_i a b; have e : a = b := by
         have h' := eq_of_beq h
         cases a; cases b; simp only [ByteArray.mk.injEq]; exact Array.ext' h'
       subst e; exact ⟨.val rfl, rfl⟩)
    | (simp at h; obtain ⟨rfl, rfl⟩ := h; exact ⟨.val rfl, rfl⟩)
    | (simp at h; subst h; exact ⟨.val rfl, rfl⟩)
    | exact ⟨.val rfl, rfl⟩
    | exact ⟨.e0, rfl⟩
    | (cases h)
def zerosCk : List AV → List Value → Bool
  | [], [] => true
  | x :: xs, v :: vs => zeroCk x v && zerosCk xs vs
  | _, _ => false
theorem zerosCk_rep : ∀ {xs : List AV} {vs : List Value}, zerosCk xs vs = true → xs.length = vs.length ∧ ∀ j, j < xs.length → zeroCk (g xs j) (vs.getD j undef) = true
  | [], [], _ => ⟨rfl, by simp⟩
  | x :: xs, v :: vs, h => by
    simp only [zerosCk, Bool.and_eq_true] at h
    obtain ⟨h1, h2⟩ := zerosCk_rep h.2
    refine ⟨by simp [h1], fun j hj => ?_⟩
    cases j with
    | zero => exact h.1
    | succ j => exact h2 j (by simpa using hj)
  | [], _ :: _, h => by cases h
  | _ :: _, [], h => by cases h
def kindD : TypeDesc → TK
  | .bool => .bool
  | .string => .str
  | .int k => .int k
  | _ => .other
def basicTy (P : Program) (t : TypeId) (k : TK) : Bool := match P.info? t, P.underlying t with
  | some i, some d => i.size == 1 && basicK k && decide (kindD d = k)
  | _, _ => false
def fldCk (P : Program) (ti : TyI) (fs : Array Field) (j : Nat) : Bool := match fs[j]? with
  | some f => f.offset == (ti.flds.getD j (0, 0)).1 && f.type == (ti.flds.getD j (0, 0)).2 && (match P.info? f.type with | some fi => decide (f.offset + fi.size ≤ ti.sz) | none => false)
  | none => false
def eqCk (P : Program) (ti : TyI) (fs : Array Field) (j : Nat) : Bool := match fs[j]? with
  | some f => f.name != "_" && f.offset == j && basicTy P f.type (ti.eq.getD j .other)
  | none => false
def elCk (P : Program) (ti : TyI) (e : TypeId) (j : Nat) : Bool := match P.info? e with
  | some fi => (ti.flds.getD j (0, 0)).1 == j * fi.size && (ti.flds.getD j (0, 0)).2 == e && decide (j * fi.size + fi.size ≤ ti.sz)
  | none => false
def nilB {α : Type} : List α → Bool
  | [] => true
  | _ :: _ => false
def eqS (P : Program) (t : TypeId) (ti : TyI) (fs : Array Field) : Bool :=
  !P.stoodInHeld t && !P.eqGuardType P.depth t && ti.eq.length == fs.size && fs.size == ti.sz && (List.range fs.size).all (eqCk P ti fs)
def eqE (P : Program) (t : TypeId) (ti : TyI) (n : Nat) (e : TypeId) : Bool :=
  !P.eqGuardType P.depth t && ti.eq.length == n && n == ti.sz && ti.eq.all (basicTy P e)
def descCk (P : Program) (t : TypeId) (ti : TyI) : TypeDesc → Bool
  | .array n e => ti.agg && ti.arr && ti.elem == 0 && decide (ti.kd = .other) && ti.flds.length == n && (List.range n).all (elCk P ti e) && (nilB ti.eq || eqE P t ti n e) && (P.info? e).isSome
  | .struct fs => ti.agg && !ti.arr && ti.elem == 0 && decide (ti.kd = .other) && ti.flds.length == fs.size && (List.range fs.size).all (fldCk P ti fs) && (nilB ti.eq || eqS P t ti fs)
  | .slice e => !ti.agg && ti.sz == 1 && ti.elem == e && ti.flds.length == 0 && decide (ti.kd = .other)
  | .pointer _ | .func _ _ _ => !ti.agg && ti.sz == 1 && ti.elem == 0 && ti.flds.length == 0 && decide (ti.kd = .other)
  | .bool => !ti.agg && ti.sz == 1 && ti.elem == 0 && ti.flds.length == 0 && decide (ti.kd = .bool)
  | .string => !ti.agg && ti.sz == 1 && ti.elem == 0 && ti.flds.length == 0 && decide (ti.kd = .str)
  | .int k => !ti.agg && ti.sz == 1 && ti.elem == 0 && ti.flds.length == 0 && decide (ti.kd = .int k)
  | .map k e => !ti.agg && ti.sz == 1 && ti.elem == 0 && ti.flds.length == 0 && decide (ti.kd = .map k e)
  | _ => false
def aggV : Value → Bool
  | .agg _ => true
  | _ => false
def tyCheck (P : Program) (t : TypeId) (ti : TyI) : Bool := match P.info? t, P.underlying t with
  | some i, some d => i.size == ti.sz && i.bytes == ti.bytes && (match i.zero with | some z => z.cells.size == ti.sz && zerosCk ti.zero z.cells.toList && aggV z == ti.agg | none => false) && descCk P t ti d
  | _, _ => false
def TabOk (P : Program) (cf : Cfg) : Prop := pos (cf.ty 0).sz = false ∧ ∀ t, pos (cf.ty t).sz = true → tyCheck P t (cf.ty t) = true
structure TyF (P : Program) (t : TypeId) (ti : TyI) (i : TypeInfo) (z : Value) (d : TypeDesc) : Prop where
  info : P.info? t = some i
  und : P.underlying t = some d
  size : i.size = ti.sz
  bytes : i.bytes = ti.bytes
  zero : i.zero = some z
  zsize : z.cells.size = ti.sz
  zlen : ti.zero.length = ti.sz
  zck : ∀ j, j < ti.sz → zeroCk (g ti.zero j) (z.cells.getD j undef) = true
  desc : descCk P t ti d = true
  zagg : aggV z = ti.agg
theorem tyCheck_f {P : Program} {t : TypeId} {ti : TyI} (h : tyCheck P t ti = true) : ∃ i z d, TyF P t ti i z d := by
  unfold tyCheck at h
  split at h
  · rename_i i d hi hd
    simp only [Bool.and_eq_true, beq_iff_eq] at h
    obtain ⟨⟨⟨h1, h2⟩, h3⟩, h4⟩ := h
    split at h3
    · rename_i z hz
      simp only [Bool.and_eq_true, beq_iff_eq] at h3
      obtain ⟨h5, h6⟩ := zerosCk_rep h3.1.2
      have hl : ti.zero.length = ti.sz := by rw [h5]; simpa using h3.1.1
      refine ⟨i, z, d, hi, hd, h1, h2, hz, h3.1.1, hl, fun j hj => ?_, h4, h3.2⟩
      have := h6 j (by omega)
      simpa [List.getD_eq_getElem?_getD, Array.getD_eq_getD_getElem?] using this
    · cases h3
  · cases h
def isAggD : TypeDesc → Bool
  | .struct _ | .array _ _ => true
  | _ => false
section
variable {P : Program} {t : TypeId} {ti : TyI} {i : TypeInfo} {z : Value} {d : TypeDesc}
theorem TyF.agg (h : TyF P t ti i z d) : isAggD d = ti.agg := by
  have := h.desc
  cases d <;> simp_all [descCk, isAggD]
theorem TyF.sz1 (h : TyF P t ti i z d) (ha : ti.agg = false) : ti.sz = 1 := by
  have := h.desc
  cases d <;> simp_all [descCk]
theorem TyF.run_isAgg (h : TyF P t ti i z d) (w : World) : (isAgg t).run P w = .ok ti.agg w := by
  rw [← h.agg]
  simp only [isAgg, Sem.run_bind, run_underlying h.und, Result.andThen]
  cases d <;> rfl
theorem TyF.run_sizeOf (h : TyF P t ti i z d) (w : World) : (Go.sizeOf t).run P w = .ok ti.sz w := by
  simp [Go.sizeOf, typeInfo, h.info, h.size]
theorem TyF.run_typeInfo (h : TyF P t ti i z d) (w : World) : (typeInfo t).run P w = .ok i w := by
  simp [typeInfo, h.info]
theorem TyF.run_zero (h : TyF P t ti i z d) (w : World) : (zeroValue t).run P w = .ok z w := by
  simp [zeroValue, typeInfo, h.info, h.zero]
theorem TyF.zcells (h : TyF P t ti i z d) {w : World} {C : Cx} (j : Nat) (hj : j < ti.sz) : Rep w C (g ti.zero j) (z.cells.getD j undef) ∧ one (z.cells.getD j undef) = true := zeroCk_rep (h.zck j hj)
theorem TyF.str (h : TyF P t ti i z d) (hk : ti.kd = .str) : P.underlying t = some .string := by
  have h1 := h.desc
  rw [h.und]
  cases d <;> simp_all [descCk]
theorem TyF.bool (h : TyF P t ti i z d) (hk : ti.kd = .bool) : P.underlying t = some .bool := by
  have h1 := h.desc
  rw [h.und]
  cases d <;> simp_all [descCk]
theorem TyF.int (h : TyF P t ti i z d) {k : IntKind} (hk : ti.kd = .int k) : P.underlying t = some (.int k) := by
  have h1 := h.desc
  rw [h.und]
  cases d <;> simp_all [descCk]
theorem TyF.map (h : TyF P t ti i z d) {k e : Nat} (hk : ti.kd = .map k e) : P.underlying t = some (.map k e) := by
  have h1 := h.desc
  rw [h.und]
  cases d <;> simp_all [descCk]
theorem TyF.slice (h : TyF P t ti i z d) {cf : Cfg} (hT : TabOk P cf) (he : pos (cf.ty ti.elem).sz = true) : P.underlying t = some (.slice ti.elem) := by
  have h1 := h.desc
  have h2 := h.und
  have h0 := hT.1
  have hne : ti.elem ≠ 0 := fun e => by rw [e, h0] at he; cases he
  rw [h2]
  cases d <;> simp_all [descCk]
end
structure Base where
  w : World
  C : Cx
  h : Heap
def TRep (w : World) (C : Cx) (β : Nat → Option Nat) : TV → Value → Prop
  | .av x, v => Rep w C x v
  | .ag cs, v => Rep w C (.agg cs) v
  | .bl b, v => v = .bool b
  | .loc t off, v => ∃ x, β t = some x ∧ v = .pointer (some ⟨x, off, none⟩)
  | .und, v => v = undef
  | .dead, _ => True
def LRel (w : World) (C : Cx) (x : Nat) (cs : List AV) : Prop :=
  ∃ c e, w.heap[x]? = some (.cells c e (0, 0)) ∧ c.size = cs.length ∧ ∀ j, j < cs.length → ∃ v, c[j]? = some v ∧ one v = true ∧ Rep w C (g cs j) v
structure SR (b : Base) (env : Env) (loc : Loc) (h : Heap) (a : Act) (w : World) (C : Cx) (β : Nat → Option Nat) : Prop where
  dfr : a.defers = []
  len : env.length = a.tmps.size
  tmp : ∀ t, t < env.length → TRep w C β (nth env t) (a.tmps.getD t undef)
  lkey : ∀ t u off, nth env t = .loc u off → (lkp loc u).isSome
  ev : Ev b.w b.C b.h w C h
  vars : ∀ t cs, lkp loc t = some cs → ∃ x, β t = some x ∧ b.w.heap.size ≤ x ∧ ¬ C.im x ∧ ¬ Live C h x ∧ LRel w C x cs
  linj : ∀ t t' cs cs' x, lkp loc t = some cs → lkp loc t' = some cs' → β t = some x → β t' = some x → t = t'
structure Kept (fz : Fz) (env env' : Env) (loc loc' : Loc) : Prop where
  len : env'.length = env.length
  env : ∀ t, may fz.t t = false → nth env' t = nth env t
  vars : ∀ t, t ∈ fz.l → lkp loc' t = lkp loc t
  keys : ∀ t, (lkp loc t).isSome → (lkp loc' t).isSome
  lens : ∀ t cs, t ∈ fz.a → lkp loc t = some cs → ∃ cs', lkp loc' t = some cs' ∧ cs'.length = cs.length
theorem Kept.refl (fz : Fz) (env : Env) (loc : Loc) : Kept fz env env loc loc := ⟨rfl, fun _ _ => rfl, fun _ _ => rfl, fun _ h => h, fun t cs _ h => ⟨cs, h, rfl⟩⟩
theorem Kept.trans {fz : Fz} {env env1 env2 : Env} {loc loc1 loc2 : Loc} (A : Kept fz env env1 loc loc1) (B : Kept fz env1 env2 loc1 loc2) : Kept fz env env2 loc loc2 :=
  ⟨B.len.trans A.len, fun t h => (B.env t h).trans (A.env t h), fun t h => (B.vars t h).trans (A.vars t h), fun t h => B.keys t (A.keys t h), fun t cs ht h => by obtain ⟨c1, h1, h2⟩ := A.lens t cs ht h; obtain ⟨c2, h3, h4⟩ := B.lens t c1 ht h1; exact ⟨c2, h3, h4.trans h2⟩⟩
def FzOk (fz : Fz) (env : Env) : Prop := (∀ t u off, may fz.t t = false → nth env t = .loc u off → u ∈ fz.a) ∧ ∀ t, t ∈ fz.l → t ∈ fz.a
theorem FzOk.kept {fz : Fz} {env env' : Env} {loc loc' : Loc} (h : FzOk fz env) (k : Kept fz env env' loc loc') : FzOk fz env' :=
  ⟨fun t u off ht he => h.1 t u off ht (by rw [← k.env t ht]; exact he), h.2⟩
theorem TRep.mono {w w' : World} {C C' : Cx} {β β' : Nat → Option Nat} (hr : ∀ x v, Rep w C x v → Rep w' C' x v) {y : TV} {v : Value}
    (hb : ∀ u off, y = .loc u off → β' u = β u) (h : TRep w C β y v) : TRep w' C' β' y v := by
  cases y with
  | av x => exact hr _ _ h
  | ag cs => exact hr _ _ h
  | bl b => exact h
  | loc u off => obtain ⟨x, h1, h2⟩ := h; exact ⟨x, by rw [hb u off rfl]; exact h1, h2⟩
  | und => exact h
  | dead => trivial
theorem LRel.mono {w w' : World} {C C' : Cx} (hr : ∀ x v, Rep w C x v → Rep w' C' x v) {x : Nat} {cs : List AV} (hx : w'.heap[x]? = w.heap[x]?) (h : LRel w C x cs) : LRel w' C' x cs := by
  obtain ⟨c, e, h1, h2, h3⟩ := h
  exact ⟨c, e, by rw [hx]; exact h1, h2, fun j hj => by obtain ⟨v, a, b, c⟩ := h3 j hj; exact ⟨v, a, b, hr _ _ c⟩⟩
theorem LRel.lt {w : World} {C : Cx} {x : Nat} {cs : List AV} (h : LRel w C x cs) : x < w.heap.size := by
  obtain ⟨c, e, h1, _⟩ := h; exact (Array.getElem?_eq_some_iff.1 h1).1
theorem TRep.asV {w : World} {C : Cx} {β : Nat → Option Nat} {y : TV} {v : Value} {x : AV} (h : TRep w C β y v) (hx : asV y = some x) : Rep w C x v := by
  cases y with
  | av x' => simp only [Am.asV, Option.some.injEq] at hx; subst hx; exact h
  | ag cs => simp only [Am.asV, Option.some.injEq] at hx; subst hx; exact h
  | bl b' => simp only [Am.asV, Option.some.injEq] at hx; subst hx; have h' : v = .bool b' := h; rw [h']; exact .val rfl
  | loc u off => cases hx
  | und => cases hx
  | dead => cases hx
section
variable {b : Base} {env : Env} {loc : Loc} {h : Heap} {a : Act} {w : World} {C : Cx} {β : Nat → Option Nat}
theorem SR.step (H : SR b env loc h a w C β) {w' : World} {C' : Cx} {h' : Heap} (E : Ev w C h w' C' h') : SR b env loc h' a w' C' β where
  dfr := H.dfr
  len := H.len
  tmp t ht := (H.tmp t ht).mono (fun x v => E.rep H.ev.rel) fun _ _ _ => rfl
  lkey := H.lkey
  ev := H.ev.trans E
  vars t cs hcs := by
    obtain ⟨x, h1, h2, h3, h4, h5⟩ := H.vars t cs hcs
    refine ⟨x, h1, h2, fun hi => ?_, fun hl => ?_, h5.mono (fun x v => E.rep H.ev.rel) (E.frame x h5.lt h4)⟩
    · rcases E.im' x hi with hi | hi | hi
      · exact h3 hi
      · exact h4 hi
      · exact absurd h5.lt (by omega)
    · rcases E.live' x hl with hi | hi
      · exact h4 hi
      · exact absurd h5.lt (by omega)
  linj := H.linj
theorem ev_rep (H : SR b env loc h a w C β) (x : Operand) : TRep w C β (ev env x) (a.eval x) := by
  cases x with
  | tmp t =>
    by_cases ht : t < env.length
    · exact H.tmp t ht
    · have : nth env t = .dead := by rw [nth_eq, List.getD_eq_getElem?_getD, List.getElem?_eq_none (Nat.le_of_not_lt ht)]; rfl
      show TRep w C β (nth env t) _
      rw [this]; trivial
  | const v =>
    show TRep w C β (cAV v) v
    unfold cAV
    split
    · rfl
    · exact .e0
    · split
      · rename_i hp; exact .val hp
      · trivial
  | func f => exact .fn #[] rfl (by simp)
  | global g => trivial
theorem SR.put (H : SR b env loc h a w C β) {fz : Fz} {dst : Option Tmp} {y : TV} {v : Value} {k : Env → Prop} (hy : TRep w C β y v) (hl : ∀ u off, y = .loc u off → (lkp loc u).isSome)
    (hk : putK fz env dst y k) : ∃ env', SR b env' loc h (a.put dst v) w C β ∧ Kept fz env env' loc loc ∧ k env' := by
  cases dst with
  | none => exact ⟨env, H, Kept.refl _ _ _, hk⟩
  | some d =>
    simp only [putK] at hk
    cases hm : may fz.t d with
    | false => rw [hm] at hk; exact (show False from hk).elim
    | true =>
      rw [hm] at hk
      simp only [setK_eq] at hk
      have hk : ∃ y, TRep w C β y v ∧ (∀ u off, y = .loc u off → (lkp loc u).isSome) ∧ k (env.set d y) := by
        split at hk
        · exact ⟨y, hy, hl, hk⟩
        · split at hk
          · rename_i c
            unfold brA at hk
            split at hk
            · rename_i x
              cases hy with
              | val hp =>
                cases x
                · exact ⟨.bl false, rfl, fun _ _ h => (by cases h), hk.2 rfl⟩
                · exact ⟨.bl true, rfl, fun _ _ h => (by cases h), hk.1 rfl⟩
            · exact hk.elim
          · exact ⟨_, hy, hl, hk⟩
      clear hy hl
      obtain ⟨y, hy, hl, hk⟩ := hk
      refine ⟨env.set d y, ⟨H.dfr, ?_, fun t ht => ?_, fun t u off he => ?_, H.ev, H.vars, H.linj⟩, ⟨by simp, fun t ht => ?_, fun _ _ => rfl, fun _ h => h, fun t cs _ h => ⟨cs, h, rfl⟩⟩, hk⟩
      · simp [Act.put, H.len]
      · rw [nth_set]
        by_cases e : d = t
        · subst e
          have ht' : d < env.length := by simpa using ht
          have ht2 : d < a.tmps.size := by rw [← H.len]; exact ht'
          rw [if_pos ⟨rfl, ht'⟩]
          simpa [Act.put, Array.getD_eq_getD_getElem?, Array.getElem?_setIfInBounds, ht2] using hy
        · rw [if_neg (fun h => e h.1)]
          have ht' : t < env.length := by simpa using ht
          have := H.tmp t ht'
          simpa [Act.put, Array.getD_eq_getD_getElem?, Array.getElem?_setIfInBounds, e] using this
      · rw [nth_set] at he
        split at he
        · exact hl u off he
        · exact H.lkey t u off he
      · rw [nth_set, if_neg (fun h => by rw [h.1, ht] at hm; cases hm)]
end
end Am
set_option linter.unusedVariables false
set_option linter.unusedSimpArgs false
namespace Am
open Go
theorem rep_heap {w w' : World} {C : Cx} (hh : w'.heap = w.heap) {x : AV} {v : Value} (h : Rep w C x v) : Rep w' C x v :=
  h.mono (fun _ _ h => h) fun b hb => ⟨hb, by rw [hh]⟩
theorem ARel.mono {w w' : World} {C C' : Cx} {o : Own} {sz : Nat} {els : List (List AV)} (hr : ∀ x v, Rep w C x v → Rep w' C' x v) (hb : w'.heap[o.blk]? = w.heap[o.blk]?) (h : ARel w C o sz els) : ARel w' C' o sz els := by
  obtain ⟨h1, h2, h3, c, e, h4, h5, h6⟩ := h
  exact ⟨h1, h2, h3, c, e, by rw [hb]; exact h4, h5, fun i j hi hj => by obtain ⟨v, a, b, c⟩ := h6 i j hi hj; exact ⟨v, a, b, hr _ _ c⟩⟩
theorem NRel.mono {w w' : World} {C C' : Cx} {o : Own} {n : Node} (hr : ∀ x v, Rep w C x v → Rep w' C' x v) (hb : w'.heap[o.blk]? = w.heap[o.blk]?) (h : NRel w C o n) : NRel w' C' o n := by
  cases n with
  | arr sz els => exact ARel.mono hr hb h
  | map es =>
    obtain ⟨ms, h1, h2, h3⟩ := h
    exact ⟨ms, by rw [hb]; exact h1, h2, fun i hi => by obtain ⟨m, a, b, c, d⟩ := h3 i hi; exact ⟨m, a, b, hr _ _ c, hr _ _ d⟩⟩
  | iter id n left cur =>
    obtain ⟨b, seen, h1, h2, h3⟩ := h
    exact ⟨b, seen, hr _ _ h1, by rw [hb]; exact h2, h3⟩
theorem Ev.draw {w : World} {C : Cx} {h : Heap} (H : MRel w C h) (n : Nat) : Ev w C h { w with drawn := n } C h where
  mu _ _ h := h
  im _ h := h
  im' _ h := .inl h
  live' _ h := .inl h
  frame _ _ _ := rfl
  size := Nat.le_refl _
  os := rfl
  tape := rfl
  output := rfl
  rel := by
    have hr : ∀ x v, Rep w C x v → Rep { w with drawn := n } C x v := fun x v hr => Rep.mono (w := w) (w' := { w with drawn := n }) (fun _ _ h => h) (fun b hb => ⟨hb, rfl⟩) hr
    refine ⟨H.inj, fun id n hn => ?_, H.imlt, H.fresh⟩
    obtain ⟨o, h1, h2, h3⟩ := H.own id n hn
    exact ⟨o, h1, h2, NRel.mono hr rfl h3⟩
theorem alloc_size (w : World) (o : Obj) : (w.alloc o).heap.size = w.heap.size + 1 := Array.size_push _
theorem heap_push_lt (w : World) (o : Obj) {i : Nat} (h : i < w.heap.size) : (w.alloc o).heap[i]? = w.heap[i]? := by
  show (w.heap.push o)[i]? = _
  rw [Array.getElem?_push, if_neg (by omega)]
theorem heap_push_new (w : World) (o : Obj) : (w.alloc o).heap[w.heap.size]? = some o := by
  show (w.heap.push o)[w.heap.size]? = _
  simp
theorem Ev.alloc {w : World} {C : Cx} {h : Heap} (H : MRel w C h) (o : Obj) : Ev w C h (w.alloc o) C h where
  mu _ _ h := h
  im _ h := h
  im' _ h := .inl h
  live' _ h := .inl h
  frame b hb _ := heap_push_lt w o hb
  size := by rw [alloc_size]; omega
  os := rfl
  tape := rfl
  output := rfl
  rel := ⟨H.inj, fun id n hn => by
      obtain ⟨o', h1, h2, h3⟩ := H.own id n hn
      exact ⟨o', h1, h2, h3.mono (fun x v hr => hr.mono (fun _ _ h => h) fun b hb => ⟨hb, heap_push_lt w o (H.imlt b hb)⟩) (heap_push_lt w o h3.blk_lt)⟩,
    fun b hb => by have := H.imlt b hb; rw [alloc_size]; omega, H.fresh⟩
theorem Ev.newOwn {w : World} {C : Cx} {h : Heap} (H : MRel w C h) {id : Nat} (hid : C.mu id = none) (hh : h id = none) (ob : Obj) (sz n : Nat) (nd : Node)
    (hN : ∀ C' : Cx, (∀ x v, Rep w C x v → Rep (w.alloc ob) C' x v) → NRel (w.alloc ob) C' ⟨w.heap.size, sz, n⟩ nd) :
    ∃ C', C'.mu id = some ⟨w.heap.size, sz, n⟩ ∧ C'.im = C.im ∧ Ev w C h (w.alloc ob) C' (h.set id nd) := by
  let C' : Cx := ⟨fun i => if i = id then some ⟨w.heap.size, sz, n⟩ else C.mu i, C.im⟩
  have hmu : ∀ i o, C.mu i = some o → C'.mu i = some o := fun i o ho => by
    have : i ≠ id := fun e => by rw [e, hid] at ho; cases ho
    show (if i = id then _ else _) = _
    rw [if_neg this]; exact ho
  have hmu' : ∀ i, i ≠ id → C'.mu i = C.mu i := fun i hi => if_neg hi
  have hmui : C'.mu id = some ⟨w.heap.size, sz, n⟩ := if_pos rfl
  have hrep : ∀ x v, Rep w C x v → Rep (w.alloc ob) C' x v := fun x v hr => hr.mono hmu fun b hb => ⟨hb, heap_push_lt w ob (H.imlt b hb)⟩
  refine ⟨C', hmui, rfl, ⟨hmu, fun _ h => h, fun _ h => .inl h, ?_, fun b hb _ => heap_push_lt w ob hb, by rw [alloc_size]; omega, rfl, rfl, rfl, ⟨?_, ?_, ?_, ?_⟩⟩⟩
  · rintro b ⟨i, nd', o, h1, h2, rfl⟩
    by_cases e : i = id
    · subst e; rw [hmui] at h2; cases h2; exact .inr (Nat.le_refl _)
    · rw [Heap.set_ne e] at h1; rw [hmu' i e] at h2; exact .inl ⟨i, nd', o, h1, h2, rfl⟩
  · intro i i' n1 n2 o1 o2 h1 h2 h3 h4 h5
    by_cases e : i = id
    · by_cases e' : i' = id
      · rw [e, e']
      · exfalso
        subst e; rw [hmui] at h3; cases h3
        rw [Heap.set_ne e'] at h2; rw [hmu' i' e'] at h4
        have := H.live_lt ⟨i', n2, o2, h2, h4, rfl⟩
        simp at h5; omega
    · by_cases e' : i' = id
      · exfalso
        subst e'; rw [hmui] at h4; cases h4
        rw [Heap.set_ne e] at h1; rw [hmu' i e] at h3
        have := H.live_lt ⟨i, n1, o1, h1, h3, rfl⟩
        simp at h5; omega
      · rw [Heap.set_ne e] at h1; rw [hmu' i e] at h3; rw [Heap.set_ne e'] at h2; rw [hmu' i' e'] at h4
        exact H.inj i i' n1 n2 o1 o2 h1 h2 h3 h4 h5
  · intro i nd' hn
    by_cases e : i = id
    · subst e
      rw [Heap.set_same] at hn; cases hn
      exact ⟨_, hmui, fun hi => by have := H.imlt _ hi; simp at this, hN C' hrep⟩
    · rw [Heap.set_ne e] at hn
      obtain ⟨o, h1, h2, h3⟩ := H.own i nd' hn
      exact ⟨o, by rw [hmu' i e]; exact h1, h2, h3.mono hrep (heap_push_lt w ob h3.blk_lt)⟩
  · intro b hb
    have := H.imlt b hb
    rw [alloc_size]; omega
  · obtain ⟨N, hN'⟩ := H.fresh
    refine ⟨max N (id + 1), fun i hi => ?_⟩
    have e : i ≠ id := by omega
    rw [hmu' i e, Heap.set_ne e]
    exact hN' i (by omega)
theorem Ev.setOwn {w w' : World} {C : Cx} {h : Heap} (H : MRel w C h) {id : Nat} {nd nd' : Node} {o : Own} (hn : h id = some nd) (ho : C.mu id = some o)
    (hw : ∀ b, b ≠ o.blk → w'.heap[b]? = w.heap[b]?) (hs : w'.heap.size = w.heap.size) (hos : w'.os = w.os) (ht : w'.tape = w.tape) (hout : w'.output = w.output)
    (hN : (∀ x v, Rep w C x v → Rep w' C x v) → NRel w' C o nd') : Ev w C h w' C (h.set id nd') := by
  have hni : ¬ C.im o.blk := by
    obtain ⟨o', h1, h2, _⟩ := H.own id nd hn
    rw [ho] at h1; cases h1; exact h2
  have hrep : ∀ x v, Rep w C x v → Rep w' C x v := fun x v hr => hr.mono (fun _ _ h => h) fun b hb => ⟨hb, hw b (fun e => hni (e ▸ hb))⟩
  have hlive : ∀ b, Live C (h.set id nd') b → Live C h b := by
    rintro b ⟨i, n', o', h1, h2, rfl⟩
    by_cases e : i = id
    · subst e; exact ⟨i, nd, o', hn, h2, rfl⟩
    · rw [Heap.set_ne e] at h1; exact ⟨i, n', o', h1, h2, rfl⟩
  refine ⟨fun _ _ h => h, fun _ h => h, fun _ h => .inl h, fun b hb => .inl (hlive b hb), fun b hb hl => hw b (fun e => hl ⟨id, nd, o, hn, ho, e.symm⟩), by omega, hos, ht, hout, ⟨?_, ?_, ?_, ?_⟩⟩
  · intro i i' n1 n2 o1 o2 h1 h2 h3 h4 h5
    have a : ∃ n, h i = some n := by
      by_cases e : i = id
      · subst e; exact ⟨_, hn⟩
      · rw [Heap.set_ne e] at h1; exact ⟨_, h1⟩
    have b : ∃ n, h i' = some n := by
      by_cases e : i' = id
      · subst e; exact ⟨_, hn⟩
      · rw [Heap.set_ne e] at h2; exact ⟨_, h2⟩
    obtain ⟨n1', a⟩ := a
    obtain ⟨n2', b⟩ := b
    exact H.inj i i' n1' n2' o1 o2 a b h3 h4 h5
  · intro i n' h1
    by_cases e : i = id
    · subst e; rw [Heap.set_same] at h1; cases h1
      exact ⟨o, ho, hni, hN hrep⟩
    · rw [Heap.set_ne e] at h1
      obtain ⟨o', h2, h3, h4⟩ := H.own i n' h1
      refine ⟨o', h2, h3, h4.mono hrep (hw _ fun e' => e (H.inj i id n' nd o' o h1 hn h2 ho e'))⟩
  · intro b hb; rw [hs]; exact H.imlt b hb
  · obtain ⟨N, hN'⟩ := H.fresh
    refine ⟨max N (id + 1), fun i hi => ?_⟩
    have e : i ≠ id := by omega
    rw [Heap.set_ne e]; exact hN' i (by omega)
theorem Ev.del {w : World} {C : Cx} {h : Heap} (H : MRel w C h) (id : Nat) : Ev w C h w C (h.del id) where
  mu _ _ h := h
  im _ h := h
  im' _ h := .inl h
  live' b hb := by
    obtain ⟨i, n, o, h1, h2, rfl⟩ := hb
    by_cases e : i = id
    · subst e; rw [Heap.del_same] at h1; cases h1
    · rw [Heap.del_ne e] at h1; exact .inl ⟨i, n, o, h1, h2, rfl⟩
  frame _ _ _ := rfl
  size := Nat.le_refl _
  os := rfl
  tape := rfl
  output := rfl
  rel := by
    have hd : ∀ i n, h.del id i = some n → h i = some n := fun i n hn => by
      by_cases e : i = id
      · subst e; rw [Heap.del_same] at hn; cases hn
      · rwa [Heap.del_ne e] at hn
    refine ⟨fun i i' n n' o o' h1 h2 => H.inj i i' n n' o o' (hd _ _ h1) (hd _ _ h2), fun i n h1 => H.own i n (hd _ _ h1), H.imlt, ?_⟩
    obtain ⟨N, hN⟩ := H.fresh
    refine ⟨N, fun i hi => ⟨(hN i hi).1, ?_⟩⟩
    cases hx : h.del id i with
    | none => rfl
    | some n => have h2 := hd i n hx; rw [(hN i hi).2] at h2; cases h2
end Am
set_option linter.unusedVariables false
set_option linter.unusedSimpArgs false
namespace Am
open Go
theorem addr_add (b o n : Nat) : (⟨b, o, none⟩ : Addr).add n = ⟨b, o + n, none⟩ := Addr.add_lit b o n
theorem getD_range (sz : Nat) (vs : Nat → Value) (j : Nat) (h : j < sz) : (((List.range sz).map vs).toArray).getD j undef = vs j := by
  simp [Array.getD_eq_getD_getElem?, h]
theorem run_loadVar_f {P : Program} {t : TypeId} {ti : TyI} {i : TypeInfo} {z : Value} {d : TypeDesc} (F : TyF P t ti i z d) {w : World} {C : Cx} {b o : Nat} {cs : List AV} (vs : Nat → Value)
    (hl : ti.sz ≤ cs.length) (hc : ∀ j, j < cs.length → w.cell? ⟨b, o + j, none⟩ = some (vs j) ∧ one (vs j) = true) (hr : ∀ j, j < cs.length → Rep w C (g cs j) (vs j)) :
    ∃ v, (loadVar t ⟨b, o, none⟩).run P w = .ok v w ∧ (ti.agg = true → Rep w C (.agg (gets cs 0 ti.sz)) v ∧ Rep w C (.agg (cs.take ti.sz)) v) ∧ (ti.agg = false → Rep w C (g cs 0) v) := by
  cases ha : ti.agg with
  | true =>
    refine ⟨.agg ((List.range ti.sz).map vs).toArray, ?_, fun _ => ⟨.agg _ (by simp [gets_length]) (fun j hj => ?_) (fun j hj => ?_), .agg _ (by simp; omega) (fun j hj => ?_) (fun j hj => ?_)⟩, fun h => (by cases h)⟩
    · simp only [loadVar, Sem.run_bind, F.run_isAgg, ha, Result.andThen, if_true, F.run_sizeOf]
      rw [run_loadCells w ⟨b, o, none⟩ ti.sz vs (fun j hj => by rw [addr_add]; exact (hc j (by omega)).1)]
      rfl
    · rw [gets_length] at hj
      rw [getD_range _ _ _ hj]; exact (hc j (by omega)).2
    · rw [gets_length] at hj
      rw [getD_range _ _ _ hj, show (gets cs 0 ti.sz).getD j .any = g (gets cs 0 ti.sz) j from rfl, g_gets _ _ _ _ hj, Nat.zero_add]
      exact hr j (by omega)
    · have hj' : j < ti.sz := by simp at hj; omega
      rw [getD_range _ _ _ hj']; exact (hc j (by omega)).2
    · have hj' : j < ti.sz := by simp at hj; omega
      rw [getD_range _ _ _ hj']
      have : (cs.take ti.sz).getD j .any = g cs j := by simp [g, List.getD_eq_getElem?_getD, List.getElem?_take, hj']
      rw [this]; exact hr j (by omega)
  | false =>
    have h1 := F.sz1 ha
    refine ⟨vs 0, ?_, fun h => (by cases h), fun _ => hr 0 (by omega)⟩
    simp only [loadVar, Sem.run_bind, F.run_isAgg, ha, Result.andThen, Bool.false_eq_true, if_false, run_load]
    have := (hc 0 (by omega)).1
    rw [Nat.add_zero] at this
    rw [this]
theorem Rep.one {w : World} {C : Cx} {x : AV} {v : Value} (h : Rep w C x v) (hx : ∀ k : Prop, oneA x k → k) (hk : oneA x True) : Am.one v = true := by
  cases h <;> first
    | rfl
    | (exact one_plain ‹_›)
    | (exact (show False from hk).elim)
theorem oneA_elim {x : AV} {k : Prop} (h : oneA x k) : k ∧ oneA x True := by
  unfold oneA at *
  cases x <;> first | exact ⟨h, trivial⟩ | exact h.elim
theorem rep_one {w : World} {C : Cx} {x : AV} {v : Value} (h : Rep w C x v) (hk : oneA x True) : one v = true := by
  cases h <;> first
    | rfl
    | (exact one_plain ‹_›)
    | (exact (show False from hk).elim)
theorem cells_one {v : Value} (h : one v = true) : v.cells = #[v] := by cases v <;> first | rfl | cases h
theorem cellsK_elim {ti : TyI} {x : TV} {k : List AV → Prop} (h : cellsK ti x k) (h1 : ti.agg = false → ti.sz = 1) {w : World} {C : Cx} {β : Nat → Option Nat} {v : Value} (hv : TRep w C β x v) :
    ∃ cs, cs.length = ti.sz ∧ k cs ∧ v.cells.size = ti.sz ∧ ∀ j, j < ti.sz → one (v.cells.getD j undef) = true ∧ Rep w C (g cs j) (v.cells.getD j undef) := by
  unfold cellsK at h
  cases ha : ti.agg with
  | true =>
    rw [ha] at h
    cases x with
    | ag ds =>
      obtain ⟨h2, h3⟩ := exactK_elim h
      refine ⟨ds, h2, h3, ?_⟩
      have hv' : Rep w C (.agg ds) v := hv
      cases hv' with
      | agg vs hs h1' hr => exact ⟨by simp [Value.cells]; omega, fun j hj => ⟨h1' j (by omega), hr j (by omega)⟩⟩
    | av y =>
      have h' : aggA ti.sz y fun cs => k (gets cs 0 ti.sz) := h
      have hv' : Rep w C y v := hv
      unfold aggA at h'
      split at h'
      · rename_i cs
        obtain ⟨h2, h3⟩ := h'
        refine ⟨_, gets_length _ _ _, h3, ?_⟩
        cases hv' with
        | agg vs hs h1' hr =>
          refine ⟨by simp [Value.cells]; omega, fun j hj => ?_⟩
          simp only [Value.cells]
          rw [g_gets _ _ _ _ hj, Nat.zero_add]
          exact ⟨h1' j (by omega), hr j (by omega)⟩
      · cases h'
    | bl b => exact (show False from h).elim
    | loc u off => exact (show False from h).elim
    | und => exact (show False from h).elim
    | dead => exact (show False from h).elim
  | false =>
    rw [ha] at h
    have h1' := h1 ha
    have key : ∀ y, Rep w C y v → one v = true → k [y] → ∃ cs, cs.length = ti.sz ∧ k cs ∧ v.cells.size = ti.sz ∧ ∀ j, j < ti.sz → one (v.cells.getD j undef) = true ∧ Rep w C (g cs j) (v.cells.getD j undef) := by
      intro y hy ho hk
      refine ⟨[y], by simp [h1'], hk, by rw [cells_one ho]; simp [h1'], fun j hj => ?_⟩
      obtain rfl : j = 0 := by omega
      rw [cells_one ho]
      exact ⟨ho, hy⟩
    cases x with
    | ag ds => exact (show False from h).elim
    | av y =>
      have hv' : Rep w C y v := hv
      obtain ⟨h2, h3⟩ := oneA_elim h
      exact key y hv' (rep_one hv' h3) h2
    | bl b =>
      have hv' : v = .bool b := hv
      subst hv'
      exact key (B b) (.val rfl) rfl h
    | loc u off => exact (show False from h).elim
    | und => exact (show False from h).elim
    | dead => exact (show False from h).elim
section
variable {P : Program} {cf : Cfg} {fz : Fz} {b : Base} {env : Env} {loc : Loc} {h : Heap} {a : Act} {w : World} {C : Cx} {β : Nat → Option Nat} {k : K} {o : Oper} {Q : Exit → Act → World → Prop}
def Next (b : Base) (fz : Fz) (env : Env) (loc : Loc) (k : K) (a : Act) (w : World) : Prop :=
  ∃ env' loc' h' C' β', SR b env' loc' h' a w C' β' ∧ Kept fz env env' loc loc' ∧ k env' loc' h'
theorem wp_val (H : SR b env loc h a w C β) {v : Value} {w' : World} {C' : Cx} {h' : Heap} {y : TV} (hr : (execOp a.eval o).run P w = .ok (.value v) w')
    (E : Ev w C h w' C' h') (hy : TRep w' C' β y v) (hl : ∀ u off, y = .loc u off → (lkp loc u).isSome) (hk : putK fz env o.dst y fun env => k env loc h') :
    Oper.wp P o a w (Next b fz env loc k) Q := by
  unfold Oper.wp
  rw [hr]
  obtain ⟨env', H', K', hk'⟩ := (H.step E).put hy hl hk
  exact ⟨env', loc, h', C', β, H', K', hk'⟩
theorem wp_same (H : SR b env loc h a w C β) {v : Value} {y : TV} (hr : (execOp a.eval o).run P w = .ok (.value v) w)
    (hy : TRep w C β y v) (hl : ∀ u off, y = .loc u off → (lkp loc u).isSome) (hk : putK fz env o.dst y fun env => k env loc h) :
    Oper.wp P o a w (Next b fz env loc k) Q := wp_val H hr (Ev.refl H.ev.rel) hy hl hk
theorem ev_lkey (H : SR b env loc h a w C β) (x : Operand) : ∀ u off, ev env x = .loc u off → (lkp loc u).isSome := by
  intro u off he
  cases x with
  | tmp t => exact H.lkey t u off he
  | const v =>
    have he' : cAV v = .loc u off := he
    unfold cAV at he'
    split at he'
    · cases he'
    · cases he'
    · split at he' <;> cases he'
  | func f => cases he
  | global g => cases he
theorem av_lkey {x : AV} : ∀ u off, TV.av x = .loc u off → (lkp loc u).isSome := fun _ _ h => by cases h
theorem op_move (H : SR b env loc h a w C β) {x : Operand} (ho : o.op = .move x ∨ o.op = .assign x) (hk : putK fz env o.dst (ev env x) fun env => k env loc h) : Oper.wp P o a w (Next b fz env loc k) Q := by
  refine wp_same H (v := a.eval x) ?_ (ev_rep H x) (ev_lkey H x) hk
  rcases ho with ho | ho <;> simp only [execOp, ho] <;> rfl
theorem brA_elim {c : AV} {A B' : Prop} {v : Value} (h : brA c A B') (hv : Rep w C c v) : (v = .bool true ∧ A) ∨ (v = .bool false ∧ B') := by
  unfold brA at h
  split at h
  · rename_i x
    cases hv with
    | val hp => cases x <;> first | exact .inl ⟨rfl, h.1 rfl⟩ | exact .inr ⟨rfl, h.2 rfl⟩
  · cases h
theorem op_pick (H : SR b env loc h a w C β) {c x y : Operand} (ho : o.op = .pick c x y) (hk : aop P cf fz o env loc h k) : Oper.wp P o a w (Next b fz env loc k) Q := by
  have hc := ev_rep H c
  simp only [aop, ho] at hk
  have go : ∀ t, a.eval c = .bool t → (putK fz env o.dst (ev env (if t then x else y)) fun env => k env loc h) → Oper.wp P o a w (Next b fz env loc k) Q := by
    intro t ht hk
    refine wp_same H (v := a.eval (if t then x else y)) ?_ (ev_rep H _) (ev_lkey H _) hk
    simp only [execOp, ho, ht, asBool, Sem.run_bind, Sem.run_pure, Result.andThen]
    cases t <;> rfl
  split at hk
  · rename_i hb; rw [hb] at hc; exact go true hc hk
  · rename_i hb; rw [hb] at hc; exact go false hc hk
  · rename_i v hb
    rw [hb] at hc
    rcases brA_elim hk hc with ⟨h1, h2⟩ | ⟨h1, h2⟩
    · exact go true h1 h2
    · exact go false h1 h2
  · exact (show False from hk).elim
end
end Am
set_option linter.unusedVariables false
set_option linter.unusedSimpArgs false
namespace Am
open Go
theorem g_drop (cs : List AV) (o j : Nat) : g (cs.drop o) j = g cs (o + j) := by simp [g, List.getD_eq_getElem?_getD]
theorem gets_eq (cs : List AV) (n : Nat) (h : n ≤ cs.length) : ∀ j, j < n → g (gets cs 0 n) j = g cs j := fun j hj => by rw [g_gets _ _ _ _ hj, Nat.zero_add]
theorem cell_at {w : World} {x : Nat} {c : Array Value} {e : TypeId} {fr : Nat × Nat} (h : w.heap[x]? = some (.cells c e fr)) (j : Nat) : w.cell? ⟨x, j, none⟩ = c[j]? := by
  simp [World.cell?, h]
theorem run_store_f {P : Program} {t : TypeId} {ti : TyI} {i : TypeInfo} {z : Value} {d : TypeDesc} (F : TyF P t ti i z d) {w : World} {x o : Nat} {c : Array Value} {e : TypeId} (hx : w.heap[x]? = some (.cells c e (0, 0)))
    {v : Value} (hs : v.cells.size = ti.sz) (h1 : ∀ j, j < ti.sz → one (v.cells.getD j undef) = true) (hl : o + ti.sz ≤ c.size) :
    ∃ w' c', (storeVar t ⟨x, o, none⟩ v).run P w = .ok () w' ∧ w'.heap[x]? = some (.cells c' e (0, 0)) ∧ c'.size = c.size ∧
      (∀ j, c'[j]? = if o ≤ j ∧ j < o + ti.sz then some (v.cells.getD (j - o) undef) else c[j]?) ∧ (∀ b, b ≠ x → w'.heap[b]? = w.heap[b]?) ∧ w'.heap.size = w.heap.size ∧ w'.os = w.os ∧ w'.tape = w.tape ∧ w'.output = w.output := by
  have hone : ∀ u ∈ v.cells.toList, u.oneCell' = true := fun u hu => by
    obtain ⟨j, hj, rfl⟩ := List.getElem_of_mem hu
    have hj' : j < v.cells.size := by simpa using hj
    have := h1 j (by omega)
    simpa [Array.getD_eq_getD_getElem?, hj'] using this
  have hlen : v.cells.toList.length = ti.sz := by simpa using hs
  have hst := run_storeCells_at P x o e v.cells.toList 0 c w hx (by simp only [Nat.add_zero, hlen]; exact hl) hone
  simp only [Nat.add_zero, hlen] at hst
  refine ⟨_, (c.toList.take o ++ v.cells.toList ++ c.toList.drop (o + ti.sz)).toArray, ?_, setRow_heap w x c _ e (0, 0) hx, ?_, fun j => ?_, fun b hb => setRow_other w x b _ hb, setRow_size _ _ _, rfl, rfl, rfl⟩
  · simp only [storeVar, Sem.run_bind, F.run_sizeOf, Result.andThen]
    rw [if_neg (by simp [hs])]
    exact hst
  · simp; omega
  · simp only [List.getElem?_toArray]
    have ho : (c.toList.take o).length = o := by simp; omega
    by_cases hj : j < o
    · rw [if_neg (by omega), List.append_assoc, List.getElem?_append_left (by omega), List.getElem?_take, if_pos hj]
      simp
    · by_cases hj2 : j < o + ti.sz
      · rw [if_pos ⟨by omega, hj2⟩, List.getElem?_append_left (by simp; omega), List.getElem?_append_right (by omega), ho]
        have : j - o < v.cells.size := by omega
        simp [Array.getD_eq_getD_getElem?, this]
      · rw [if_neg (by omega), List.getElem?_append_right (by simp; omega)]
        simp only [List.length_append, ho, hlen, List.getElem?_drop]
        have : o + ti.sz + (j - (o + ti.sz)) = j := by omega
        rw [this]; simp
section
variable {P : Program} {cf : Cfg} {fz : Fz} {b : Base} {env : Env} {loc : Loc} {h : Heap} {a : Act} {w : World} {C : Cx} {β : Nat → Option Nat} {k : K} {o : Oper} {Q : Exit → Act → World → Prop}
theorem LRel.cells {x : Nat} {cs : List AV} (H : LRel w C x cs) (off : Nat) : ∃ vs : Nat → Value, (∀ j, j < (cs.drop off).length → w.cell? ⟨x, off + j, none⟩ = some (vs j) ∧ one (vs j) = true) ∧
    ∀ j, j < (cs.drop off).length → Rep w C (g (cs.drop off) j) (vs j) := by
  obtain ⟨c, e, h1, h2, h3⟩ := H
  refine ⟨fun j => c.getD (off + j) undef, fun j hj => ?_, fun j hj => ?_⟩ <;> (
    have hj' : off + j < cs.length := by simp at hj; omega
    obtain ⟨v, h4, h5, h6⟩ := h3 _ hj'
    have : c.getD (off + j) undef = v := by simp [Array.getD_eq_getD_getElem?, h4])
  · dsimp only; rw [cell_at h1, h4, this]; exact ⟨rfl, h5⟩
  · dsimp only; rw [this, g_drop]; exact h6
theorem run_load_op {t : TypeId} {x : Operand} {ad : Addr} {v : Value} (ho : o.op = .load t x) (hx : a.eval x = .pointer (some ad)) (hr : (loadVar t ad).run P w = .ok v w) : (execOp a.eval o).run P w = .ok (.value v) w := by
  simp [execOp, ho, Instr.loadAt, Instr.sureAddr, hx, hr]
theorem ARel.cells {ow : Own} {z : Nat} {els : List (List AV)} (H : ARel w C ow z els) (ix off : Nat) (hi : ix < els.length) :
    ∃ vs : Nat → Value, (∀ j, j < ((els.getD ix []).drop off).length → w.cell? ⟨ow.blk, ix * ow.sz + off + j, none⟩ = some (vs j) ∧ one (vs j) = true) ∧
      ∀ j, j < ((els.getD ix []).drop off).length → Rep w C (g ((els.getD ix []).drop off) j) (vs j) := by
  obtain ⟨h1, h2, h3, c, e, h4, h5, h6⟩ := H
  refine ⟨fun j => c.getD (ix * z + off + j) undef, fun j hj => ?_, fun j hj => ?_⟩ <;> (
    have hj' : off + j < z := by rw [List.length_drop, h2 ix hi] at hj; omega
    obtain ⟨v, h7, h8, h9⟩ := h6 ix (off + j) hi hj'
    rw [← Nat.add_assoc] at h7
    have : c.getD (ix * z + off + j) undef = v := by simp [Array.getD_eq_getD_getElem?, h7])
  · dsimp only; rw [cell_at h4, h1, h7, this]; exact ⟨rfl, h8⟩
  · dsimp only; rw [this, g_drop]; exact h9
theorem op_load (HT : TabOk P cf) (H : SR b env loc h a w C β) {t : TypeId} {x : Operand} (ho : o.op = .load t x) (hty : opTy cf o = true) (hk : aop P cf fz o env loc h k) : Oper.wp P o a w (Next b fz env loc k) Q := by
  have hty' : pos (cf.ty t).sz = true := by simpa [opTy, ho] using hty
  obtain ⟨i, z, d, F⟩ := tyCheck_f (HT.2 t hty')
  have hx := ev_rep H x
  simp only [aop, ho] at hk
  have hpos : 0 < (cf.ty t).sz := by cases hs : (cf.ty t).sz with | zero => rw [hs] at hty'; cases hty' | succ n => omega
  split at hk
  · rename_i u off he
    rw [he] at hx
    obtain ⟨x0, h1, h2⟩ := hx
    split at hk
    · rename_i cs hcs
      obtain ⟨x1, h3, h4, h5, h6, h7⟩ := H.vars u cs hcs
      rw [h1] at h3; cases h3
      obtain ⟨vs, h8, h9⟩ := h7.cells off
      split at hk
      · rename_i ha
        obtain ⟨h10, h11⟩ := takeK_elim hk
        obtain ⟨v, h12, h13, _⟩ := run_loadVar_f F vs h10 h8 h9
        exact wp_same H (run_load_op ho h2 h12) (y := .ag _) (h13 ha).2 (fun _ _ h => by cases h) h11
      · rename_i ha
        obtain ⟨h10, h11⟩ := takeK_elim hk
        obtain ⟨v, h12, _, h13⟩ := run_loadVar_f F vs (by rw [F.sz1 ha]; exact h10) h8 h9
        have hg : g ((cs.drop off).take 1) 0 = g (cs.drop off) 0 := by simp [g, List.getD_eq_getElem?_getD, List.getElem?_take]
        rw [hg] at h11
        exact wp_same H (run_load_op ho h2 h12) (y := .av _) (h13 ha) av_lkey h11
    · exact (show False from hk).elim
  · rename_i p he
    rw [he] at hx
    have hx' : Rep w C p (a.eval x) := hx
    replace hk := drK_elim hk
    split at hk
    · rename_i ha
      unfold loadG at hk
      split at hk
      · rename_i cs
        obtain ⟨h1, h2⟩ := hk
        generalize hv : a.eval x = va at hx'
        cases hx' with
        | ro vs him hc hr =>
          obtain ⟨v, h12, h13, _⟩ := run_loadVar_f F vs h1 hc hr
          exact wp_same H (run_load_op ho hv h12) (y := .ag _) (h13 ha).1 (fun _ _ h => by cases h) h2
      · rename_i id ix off
        split at hk
        · rename_i z els hh
          obtain ⟨h1, h2, h3⟩ := hk
          obtain ⟨ow, h4, h5, h6⟩ := H.ev.rel.own id _ hh
          generalize hv : a.eval x = va at hx'
          cases hx' with
          | op hm =>
            rw [h4] at hm; cases hm
            obtain ⟨vs, h8, h9⟩ := ARel.cells h6 ix off h1
            obtain ⟨v, h12, h13, _⟩ := run_loadVar_f F vs (by rw [List.length_drop, h6.2.1 ix h1]; omega) h8 h9
            exact wp_same H (run_load_op ho hv h12) (y := .ag _) (h13 ha).1 (fun _ _ h => by cases h) h3
        · cases hk
      · cases hk
    · rename_i ha
      unfold loadV at hk
      split at hk
      · rename_i cs
        obtain ⟨h1, h2⟩ := hk
        generalize hv : a.eval x = va at hx'
        cases hx' with
        | ro vs him hc hr =>
          obtain ⟨v, h12, _, h13⟩ := run_loadVar_f F vs (by rw [F.sz1 ha]; omega) hc hr
          exact wp_same H (run_load_op ho hv h12) (y := .av _) (h13 ha) av_lkey h2
      · rename_i id ix off
        split at hk
        · rename_i z els hh
          obtain ⟨h1, h2, h3⟩ := hk
          obtain ⟨ow, h4, h5, h6⟩ := H.ev.rel.own id _ hh
          generalize hv : a.eval x = va at hx'
          cases hx' with
          | op hm =>
            rw [h4] at hm; cases hm
            obtain ⟨vs, h8, h9⟩ := ARel.cells h6 ix off h1
            obtain ⟨v, h12, _, h13⟩ := run_loadVar_f F vs (by rw [List.length_drop, h6.2.1 ix h1, F.sz1 ha]; omega) h8 h9
            have := h13 ha
            rw [g_drop, Nat.add_zero] at this
            exact wp_same H (run_load_op ho hv h12) (y := .av _) this av_lkey h3
        · cases hk
      · cases hk
  · exact (show False from hk).elim
theorem run_store_op {t : TypeId} {x v : Operand} {ad : Addr} {w' : World} (ho : o.op = .store t x v) (hx : a.eval x = .pointer (some ad)) (hr : (storeVar t ad (a.eval v)).run P w = .ok () w') : (execOp a.eval o).run P w = .ok .skip w' := by
  simp [execOp, ho, Instr.storeAt, Instr.sureAddr, hx, hr]
theorem SR.setVar (H : SR b env loc h a w C β) {u x : Nat} {ds ds' : List AV} (hu : lkp loc u = some ds) (hx : β u = some x) {w' : World}
    (hw : ∀ b, b ≠ x → w'.heap[b]? = w.heap[b]?) (hs : w'.heap.size = w.heap.size) (hos : w'.os = w.os) (ht : w'.tape = w.tape) (hout : w'.output = w.output)
    (hN : (∀ y v, Rep w C y v → Rep w' C y v) → LRel w' C x ds') : SR b env (lset loc u ds') h a w' C β := by
  obtain ⟨x', h1, h2, h3, h4, h5⟩ := H.vars u ds hu
  rw [hx] at h1; cases h1
  have hrep : ∀ y v, Rep w C y v → Rep w' C y v := fun y v hr => hr.mono (fun _ _ h => h) fun b hb => ⟨hb, hw b (fun e => h3 (e ▸ hb))⟩
  have hE : Ev w C h w' C h → Ev b.w b.C b.h w' C h := fun E => H.ev.trans E
  refine ⟨H.dfr, H.len, fun t ht => (H.tmp t ht).mono hrep fun _ _ _ => rfl, fun t v off he => ?_, ?_, fun t cs hcs => ?_, fun t t' cs cs' y h6 h7 h8 h9 => ?_⟩
  · have := H.lkey t v off he
    rw [lkp_lset]; split <;> simp_all
  · have E0 := H.ev
    refine ⟨E0.mu, E0.im, E0.im', E0.live', fun y hy hl => ?_, by rw [hs]; exact E0.size, hos.trans E0.os, ht.trans E0.tape, hout.trans E0.output, ⟨E0.rel.inj, fun id n hn => ?_, fun y hy => ?_, E0.rel.fresh⟩⟩
    · rw [hw y (fun e => by omega), E0.frame y hy hl]
    · obtain ⟨o, h6, h7, h8⟩ := E0.rel.own id n hn
      exact ⟨o, h6, h7, h8.mono hrep (hw _ fun e => h4 ⟨id, n, o, hn, h6, e⟩)⟩
    · rw [hs]; exact E0.rel.imlt y hy
  · rw [lkp_lset] at hcs
    split at hcs
    · rename_i e; subst e; cases hcs
      exact ⟨x, hx, h2, h3, h4, hN hrep⟩
    · rename_i e
      obtain ⟨y, h6, h7, h8, h9, h10⟩ := H.vars t cs hcs
      refine ⟨y, h6, h7, h8, h9, h10.mono hrep (hw y fun e' => ?_)⟩
      subst e'; exact e (H.linj u t ds cs y hu hcs hx h6)
  · rw [lkp_lset] at h6 h7
    have k1 : ∃ c, lkp loc t = some c := by split at h6 <;> simp_all
    have k2 : ∃ c, lkp loc t' = some c := by split at h7 <;> simp_all
    obtain ⟨c1, k1⟩ := k1
    obtain ⟨c2, k2⟩ := k2
    exact H.linj t t' c1 c2 y k1 k2 h8 h9
theorem op_store (HT : TabOk P cf) (H : SR b env loc h a w C β) {t : TypeId} {x v : Operand} (ho : o.op = .store t x v) (hty : opTy cf o = true) (hk : aop P cf fz o env loc h k) : Oper.wp P o a w (Next b fz env loc k) Q := by
  have hty' : pos (cf.ty t).sz = true := by simpa [opTy, ho] using hty
  obtain ⟨i, z, d, F⟩ := tyCheck_f (HT.2 t hty')
  have hx := ev_rep H x
  have hv := ev_rep H v
  simp only [aop, ho] at hk
  obtain ⟨cs, hcl, hk, hcs, hcr⟩ := cellsK_elim hk F.sz1 hv
  split at hk
  · rename_i u off he
    rw [he] at hx
    obtain ⟨x0, h1, h2⟩ := hx
    split at hk
    · exact (show False from hk).elim
    · rename_i hfz
      split at hk
      · rename_i ds hds
        obtain ⟨h3, h4⟩ := takeK_elim hk
        rw [spliceK_eq, lsetK_eq] at h4
        obtain ⟨x1, h5, h6, h7, h8, c, e, h9, h10, h11⟩ := H.vars u ds hds
        rw [h1] at h5; cases h5
        have hlen : off + (cf.ty t).sz ≤ ds.length ∨ (cf.ty t).sz = 0 := by simp at h3; omega
        have hlen : off + (cf.ty t).sz ≤ ds.length := by
          rcases hlen with h | h
          · exact h
          · rw [h] at hty'; cases hty'
        obtain ⟨w', c', r1, r2, r3, r4, r5, r6, r7, r8, r9⟩ := run_store_f F h9 hcs (fun j hj => (hcr j hj).1) (by rw [h10]; exact hlen)
        have H' := H.setVar hds h1 r5 r6 r7 r8 r9 (ds' := splice ds off cs) fun hrep => by
          refine ⟨c', e, r2, by rw [r3, h10, splice_length], fun j hj => ?_⟩
          rw [splice_length] at hj
          rw [r4, g_splice _ _ _ _ (by rw [hcl]; exact hlen), hcl]
          by_cases hb : off ≤ j ∧ j < off + (cf.ty t).sz
          · rw [if_pos hb, if_pos hb]
            exact ⟨_, rfl, (hcr _ (by omega)).1, hrep _ _ (hcr _ (by omega)).2⟩
          · rw [if_neg hb, if_neg hb]
            obtain ⟨y, q1, q2, q3⟩ := h11 j hj
            exact ⟨y, q1, q2, hrep _ _ q3⟩
        unfold Oper.wp
        rw [run_store_op ho h2 r1]
        obtain ⟨env', H2, K2, hk2⟩ := H'.put (y := .dead) (v := undef) (dst := o.dst) (fz := fz) trivial (fun _ _ h => by cases h) h4
        refine ⟨env', _, h, C, β, H2, ⟨K2.len, K2.env, fun t' ht' => ?_, fun t' ht' => ?_, fun t' cs' _ hcs' => ?_⟩, hk2⟩
        · rw [lkp_lset, if_neg (fun e => by subst e; rw [(nmem_eq fz.l u).2 ht'] at hfz; cases hfz)]
        · rw [lkp_lset]; split <;> simp_all
        · rw [lkp_lset]
          split
          · rename_i e; subst e
            rw [hds] at hcs'; cases hcs'
            exact ⟨_, rfl, splice_length _ _ _⟩
          · exact ⟨cs', hcs', rfl⟩
      · exact (show False from hk).elim
  · rename_i p he
    rw [he] at hx
    have hx' : Rep w C p (a.eval x) := hx
    unfold storeG at hk
    split at hk
    · rename_i id ix off
      split at hk
      · rename_i zz els hh
        obtain ⟨h1, h2, h3⟩ := hk
        obtain ⟨ow, h4, h5, h6, h7, h8, c, e, h9, h10, h11⟩ := H.ev.rel.own id _ hh
        generalize hva : a.eval x = va at hx'
        cases hx' with
        | op hm =>
          rw [h4] at hm; cases hm
          subst h6
          have hfit : ix * ow.sz + off + (cf.ty t).sz ≤ c.size := by
            have : (ix + 1) * ow.sz ≤ els.length * ow.sz := Nat.mul_le_mul_right _ h1
            rw [Nat.add_mul, Nat.one_mul] at this
            omega
          obtain ⟨w', c', r1, r2, r3, r4, r5, r6, r7, r8, r9⟩ := run_store_f F h9 hcs (fun j hj => (hcr j hj).1) hfit
          have E := Ev.setOwn H.ev.rel hh h4 r5 r6 r7 r8 r9 (nd' := .arr ow.sz (els.set ix (splice (els.getD ix []) off cs))) fun hrep => by
            refine ⟨rfl, fun i hi => ?_, by simpa using h8, c', e, r2, by rw [r3, h10], fun i j hi hj => ?_⟩
            · simp only [List.length_set] at hi
              by_cases hix : i = ix
              · subst hix; simp [List.getD_eq_getElem?_getD, List.getElem?_set_self hi, splice_length]; have := h7 i hi; simpa [List.getD_eq_getElem?_getD] using this
              · have := h7 i hi
                simpa [List.getD_eq_getElem?_getD, List.getElem?_set_ne (Ne.symm hix)] using this
            · simp only [List.length_set] at hi
              rw [r4]
              obtain ⟨y, q1, q2, q3⟩ := h11 i j hi hj
              by_cases hix : i = ix
              · subst hix
                have e1 : (els.set i (splice (els.getD i []) off cs)).getD i [] = splice (els.getD i []) off cs := by simp [List.getD_eq_getElem?_getD, List.getElem?_set_self hi]
                rw [e1]
                have e2 := g_splice cs (els.getD i []) off j (by rw [h7 i hi]; omega)
                show ∃ v, _ ∧ _ ∧ Rep w' C (g (splice (els.getD i []) off cs) j) v
                rw [e2, hcl]
                by_cases hb : off ≤ j ∧ j < off + (cf.ty t).sz
                · rw [if_pos hb, if_pos (by omega)]
                  have : i * ow.sz + j - (i * ow.sz + off) = j - off := by omega
                  rw [this]
                  exact ⟨_, rfl, (hcr _ (by omega)).1, hrep _ _ (hcr _ (by omega)).2⟩
                · rw [if_neg hb, if_neg (by omega)]
                  exact ⟨y, q1, q2, hrep _ _ q3⟩
              · have e1 : (els.set ix (splice (els.getD ix []) off cs)).getD i [] = els.getD i [] := by simp [List.getD_eq_getElem?_getD, List.getElem?_set_ne (Ne.symm hix)]
                rw [e1, if_neg ?_]
                · exact ⟨y, q1, q2, hrep _ _ q3⟩
                · rintro ⟨b1, b2⟩
                  rcases Nat.lt_or_gt_of_ne hix with hlt | hlt
                  · have : (i + 1) * ow.sz ≤ ix * ow.sz := Nat.mul_le_mul_right _ hlt
                    rw [Nat.add_mul, Nat.one_mul] at this
                    omega
                  · have : (ix + 1) * ow.sz ≤ i * ow.sz := Nat.mul_le_mul_right _ hlt
                    rw [Nat.add_mul, Nat.one_mul] at this
                    omega
          unfold Oper.wp
          rw [run_store_op ho hva r1]
          obtain ⟨env', H2, K2, hk2⟩ := (H.step E).put (y := .dead) (v := undef) (dst := o.dst) (fz := fz) trivial (fun _ _ h => by cases h) h3
          exact ⟨env', loc, _, C, β, H2, K2, hk2⟩
      · cases hk
    · cases hk
  · exact (show False from hk).elim
end
end Am
set_option linter.unusedVariables false
set_option linter.unusedSimpArgs false
namespace Am
open Go
section
variable {P : Program} {cf : Cfg} {fz : Fz} {b : Base} {env : Env} {loc : Loc} {h : Heap} {a : Act} {w : World} {C : Cx} {β : Nat → Option Nat} {k : K} {o : Oper} {Q : Exit → Act → World → Prop}
theorem run_box_op {t : TypeId} {x : Operand} (ho : o.op = .box t x) : (execOp a.eval o).run P w = .ok (.value (.pointer (some ⟨w.heap.size, 0, none⟩))) (w.alloc (.cells (a.eval x).cells t)) := by
  simp only [execOp, ho, Instr.box, newVar, newRow, Sem.run_bind, run_newObj, Result.andThen, Sem.run_pure]; rfl
theorem run_alloc_op {t : TypeId} {ti : TyI} {i : TypeInfo} {z : Value} {d : TypeDesc} (F : TyF P t ti i z d) (ho : o.op = .alloc t) : (execOp a.eval o).run P w = .ok (.value (.pointer (some ⟨w.heap.size, 0, none⟩))) (w.alloc (.cells z.cells t)) := by
  simp only [execOp, ho, Instr.alloc, newVar, newRow, Sem.run_bind, F.run_zero, run_newObj, Result.andThen, Sem.run_pure]; rfl
theorem SR.newVar (H : SR b env loc h a w C β) (hfz : FzOk fz env) {dst : Option Tmp} {cs : List AV} {vs : Array Value} {e : TypeId} {k : Env → Loc → Prop} (hsz : vs.size = cs.length)
    (hvs : ∀ j, j < cs.length → one (vs.getD j undef) = true ∧ Rep w C (g cs j) (vs.getD j undef)) (hk : varK fz env loc dst cs k) :
    ∃ env' loc' β', SR b env' loc' h (a.put dst (.pointer (some ⟨w.heap.size, 0, none⟩))) (w.alloc (.cells vs e)) C β' ∧ Kept fz env env' loc loc' ∧ k env' loc' := by
  cases dst with
  | none => exact (show False from hk).elim
  | some d =>
    simp only [varK] at hk
    cases hm : may fz.t d with
    | false => rw [hm] at hk; exact (show False from hk).elim
    | true =>
      rw [hm] at hk
      simp only at hk
      cases hna : nmem fz.a d with
      | true => rw [hna] at hk; exact (show False from hk).elim
      | false =>
        rw [hna] at hk
        simp only [killK_eq, setK_eq, lsetK_eq] at hk
        have hnl : ∀ t, may fz.t t = false → ∀ u off, nth env t = .loc u off → u ≠ d := fun t ht u off he e => by
          have := hfz.1 t u off ht he
          rw [e] at this
          rw [(nmem_eq fz.a d).2 this] at hna; cases hna
        have E := Ev.alloc H.ev.rel (.cells vs e)
        have H1 := H.step E
        let β' : Nat → Option Nat := fun t => if t = d then some w.heap.size else β t
        have hβ : ∀ t, t ≠ d → β' t = β t := fun t ht => if_neg ht
        have hβd : β' d = some w.heap.size := if_pos rfl
        have hx : ¬ Live C h w.heap.size := fun hl => by have := H.ev.rel.live_lt hl; omega
        have hi : ¬ C.im w.heap.size := fun hl => by have := H.ev.rel.imlt _ hl; omega
        have hlt : ∀ t x cs', lkp loc t = some cs' → β t = some x → x < w.heap.size := fun t x cs' h1 h2 => by
          obtain ⟨x', h3, _, _, _, h4⟩ := H.vars t cs' h1
          rw [h2] at h3; cases h3; exact h4.lt
        refine ⟨_, _, β', ⟨H.dfr, ?_, fun t ht => ?_, fun t u off he => ?_, H1.ev, fun t cs' hcs => ?_, fun t t' cs1 cs2 x h1 h2 h3 h4 => ?_⟩, ⟨by simp, fun t ht => ?_, fun t ht => ?_, fun t ht => ?_, fun t cs' ht hcs => ?_⟩, hk⟩
        · simp [Act.put, H.len]
        · rw [nth_set]
          simp only [List.length_map, List.length_set] at ht ⊢
          by_cases hdt : d = t
          · subst hdt
            have ht2 : d < a.tmps.size := by rw [← H.len]; exact ht
            rw [if_pos ⟨rfl, ht⟩]
            refine ⟨w.heap.size, hβd, ?_⟩
            simp [Act.put, Array.getD_eq_getD_getElem?, Array.getElem?_setIfInBounds, ht2]
          · rw [if_neg (fun h => hdt h.1), nth_map_kill]
            have hv : (a.put (some d) (.pointer (some ⟨w.heap.size, 0, none⟩))).tmps.getD t undef = a.tmps.getD t undef := by
              simp [Act.put, Array.getD_eq_getD_getElem?, Array.getElem?_setIfInBounds, hdt]
            rw [hv]
            have h0 := H1.tmp t ht
            cases hn : nth env t with
            | loc u off =>
              rw [hn] at h0
              simp only [kill1]
              split
              · trivial
              · rename_i hu
                obtain ⟨x, h1, h2⟩ := h0
                exact ⟨x, by rw [hβ u hu]; exact h1, h2⟩
            | av x => rw [hn] at h0; exact h0
            | ag x => rw [hn] at h0; exact h0
            | bl x => rw [hn] at h0; exact h0
            | und => rw [hn] at h0; exact h0
            | dead => trivial
        · rw [nth_set, nth_map_kill] at he
          rw [lkp_lset]
          split at he
          · cases he; simp
          · cases hn : nth env t with
            | loc u' off' =>
              rw [hn] at he
              simp only [kill1] at he
              split at he
              · cases he
              · cases he
                have := H.lkey t u off hn
                split <;> simp_all
            | _ => rw [hn] at he; cases he
        · rw [lkp_lset] at hcs
          split at hcs
          · rename_i hdt
            cases hcs; subst hdt
            refine ⟨w.heap.size, hβd, H.ev.size, hi, hx, vs, e, heap_push_new w _, hsz, fun j hj => ?_⟩
            have hj' : j < vs.size := by omega
            refine ⟨vs.getD j undef, by simp [Array.getD_eq_getD_getElem?, hj'], (hvs j hj).1, E.rep H.ev.rel (hvs j hj).2⟩
          · rename_i hdt
            obtain ⟨x, h1, h2⟩ := H1.vars t cs' hcs
            exact ⟨x, by rw [hβ t (Ne.symm hdt)]; exact h1, h2⟩
        · rw [lkp_lset] at h1 h2
          by_cases e1 : d = t
          · by_cases e2 : d = t'
            · rw [← e1, ← e2]
            · exfalso
              subst e1
              rw [hβd] at h3; cases h3
              rw [if_neg e2] at h2; rw [hβ t' (Ne.symm e2)] at h4
              have := hlt t' _ _ h2 h4; omega
          · by_cases e2 : d = t'
            · exfalso
              subst e2
              rw [hβd] at h4; cases h4
              rw [if_neg e1] at h1; rw [hβ t (Ne.symm e1)] at h3
              have := hlt t _ _ h1 h3; omega
            · rw [if_neg e1] at h1; rw [if_neg e2] at h2
              rw [hβ t (Ne.symm e1)] at h3; rw [hβ t' (Ne.symm e2)] at h4
              exact H.linj t t' cs1 cs2 x h1 h2 h3 h4
        · rw [nth_set, if_neg (fun h => by rw [h.1, ht] at hm; cases hm), nth_map_kill]
          cases hn : nth env t with
          | loc u off => simp only [kill1]; rw [if_neg (hnl t ht u off hn)]
          | _ => rfl
        · rw [lkp_lset, if_neg (fun e => by subst e; rw [(nmem_eq fz.a d).2 (hfz.2 d ht)] at hna; cases hna)]
        · rw [lkp_lset]; split <;> simp_all
        · rw [lkp_lset, if_neg (fun e => by subst e; rw [(nmem_eq fz.a d).2 ht] at hna; cases hna)]
          exact ⟨cs', hcs, rfl⟩
theorem kill_pred (P' : Prop) : P' → P' := id
theorem newA_elim (H : SR b env loc h a w C β) {sz : Nat} {cs : List AV} {k : AV → Heap → Prop} (hk : newA sz cs h k) {vs : Array Value} {e : TypeId} (hcl : cs.length = sz) (hsz : vs.size = sz)
    (hvs : ∀ j, j < sz → one (vs.getD j undef) = true ∧ Rep w C (g cs j) (vs.getD j undef)) :
    ∃ p h' C', Ev w C h (w.alloc (.cells vs e)) C' h' ∧ Rep (w.alloc (.cells vs e)) C' p (.pointer (some ⟨w.heap.size, 0, none⟩)) ∧ k p h' := by
  obtain ⟨N, hN⟩ := H.ev.rel.fresh
  obtain ⟨h1, h2⟩ := hN N (Nat.le_refl _)
  obtain ⟨C', h3, h4, E⟩ := Ev.newOwn H.ev.rel h1 h2 (.cells vs e) sz vs.size (.arr sz [cs]) fun C' hrep => by
    refine ⟨rfl, fun i hi => ?_, by simp [hsz], vs, e, heap_push_new w _, rfl, fun i j hi hj => ?_⟩
    · simp at hi; subst hi; simpa using hcl
    · simp at hi; subst hi
      have hj' : j < vs.size := by omega
      exact ⟨vs.getD j undef, by simp [Array.getD_eq_getD_getElem?, hj'], (hvs j hj).1, hrep _ _ (by simpa [g] using (hvs j hj).2)⟩
  exact ⟨_, _, C', E, by simpa using (Rep.op (w := w.alloc (.cells vs e)) (ix := 0) (off := 0) h3), hk N h2⟩
theorem op_box (HT : TabOk P cf) (H : SR b env loc h a w C β) (hfz : FzOk fz env) {t : TypeId} {x : Operand} (ho : o.op = .box t x) (hty : opTy cf o = true) (hk : aop P cf fz o env loc h k) : Oper.wp P o a w (Next b fz env loc k) Q := by
  have hty' : pos (cf.ty t).sz = true := by simpa [opTy, ho] using hty
  obtain ⟨i, z, d, F⟩ := tyCheck_f (HT.2 t hty')
  have hx := ev_rep H x
  simp only [aop, ho] at hk
  obtain ⟨cs, hcl, hk, hcs, hcr⟩ := cellsK_elim hk F.sz1 hx
  split at hk
  · obtain ⟨p, h', C', E, hp, hk⟩ := newA_elim H hk (e := t) hcl hcs hcr
    exact wp_val H (run_box_op ho) E (y := .av p) hp av_lkey hk
  · obtain ⟨env', loc', β', H', K', hk'⟩ := H.newVar hfz (e := t) (vs := (a.eval x).cells) (by rw [hcs, hcl]) (fun j hj => hcr j (by omega)) (varC_elim hk)
    unfold Oper.wp
    rw [run_box_op ho]
    exact ⟨env', loc', h, C, β', H', K', hk'⟩
theorem op_alloc (HT : TabOk P cf) (H : SR b env loc h a w C β) (hfz : FzOk fz env) {t : TypeId} (ho : o.op = .alloc t) (hty : opTy cf o = true) (hk : aop P cf fz o env loc h k) : Oper.wp P o a w (Next b fz env loc k) Q := by
  have hty' : pos (cf.ty t).sz = true := by simpa [opTy, ho] using hty
  obtain ⟨i, z, d, F⟩ := tyCheck_f (HT.2 t hty')
  simp only [aop, ho] at hk
  have hz : ∀ j, j < (cf.ty t).sz → one (z.cells.getD j undef) = true ∧ Rep w C (g (cf.ty t).zero j) (z.cells.getD j undef) := fun j hj => (F.zcells j hj).symm
  split at hk
  · obtain ⟨p, h', C', E, hp, hk⟩ := newA_elim H hk (e := t) F.zlen F.zsize hz
    exact wp_val H (run_alloc_op F ho) E (y := .av p) hp av_lkey hk
  · obtain ⟨env', loc', β', H', K', hk'⟩ := H.newVar hfz (e := t) (vs := z.cells) (by rw [F.zsize, F.zlen]) (fun j hj => hz j (by rw [← F.zlen]; exact hj)) (varC_elim hk)
    unfold Oper.wp
    rw [run_alloc_op F ho]
    exact ⟨env', loc', h, C, β', H', K', hk'⟩
theorem op_nil (H : SR b env loc h a w C β) {x : Operand} (ho : o.op = .nilCheck x) (hk : aop P cf fz o env loc h k) : Oper.wp P o a w (Next b fz env loc k) Q := by
  have hx := ev_rep H x
  have hl := ev_lkey H x
  simp only [aop, ho] at hk
  split at hk
  · rename_i t off he
    rw [he] at hx
    have hx0 := hx
    obtain ⟨x0, h1, h2⟩ := hx
    refine wp_same H (v := a.eval x) ?_ (y := .loc t off) hx0 (fun u o' e => by cases e; exact hl t off he) hk
    simp [execOp, ho, h2]
  · rename_i v he
    rw [he] at hx
    have hx' : Rep w C v (a.eval x) := hx
    unfold nilA at hk
    split at hk <;> first
      | (refine wp_same H (v := a.eval x) ?_ (y := .av _) hx av_lkey hk
         generalize hv : a.eval x = va at hx'
         cases hx' <;> simp [execOp, ho, hv])
      | (cases hk)
  · exact (show False from hk).elim
theorem run_field_op {t : TypeId} {ti : TyI} {i : TypeInfo} {z : Value} {d : TypeDesc} (F : TyF P t ti i z d) (hty : pos ti.sz = true) {f : Nat} {x : Operand} {bb off : Nat} (ho : o.op = .fieldAddr t x f) (harr : ti.arr = false) (hf : f < ti.flds.length)
    {ft : TyI} {fi : TypeInfo} {fz' : Value} {fd : TypeDesc} (FF' : TyF P (ti.flds.getD f (0, 0)).2 ft fi fz' fd) (hpos : pos ft.sz = true) (hx : a.eval x = .pointer (some ⟨bb, off, none⟩)) :
    (execOp a.eval o).run P w = .ok (.value (.pointer (some ⟨bb, off + (ti.flds.getD f (0, 0)).1, none⟩))) w := by
  have hd := F.desc
  have hu := F.und
  cases d with
  | struct fs =>
    simp only [descCk, Bool.and_eq_true, beq_iff_eq, List.all_eq_true, List.mem_range] at hd
    have hff := hd.1.2 f (by omega)
    unfold fldCk at hff
    cases hfs : fs[f]? with
    | none => rw [hfs] at hff; cases hff
    | some fl =>
      rw [hfs] at hff
      simp only [Bool.and_eq_true, beq_iff_eq] at hff
      have hsz : (Go.sizeOf fl.type).run P w = .ok ft.sz w := by rw [hff.1.2]; exact FF'.run_sizeOf w
      have hne : ft.sz ≠ 0 := fun e => by rw [e] at hpos; cases hpos
      simp only [execOp, ho, Instr.fieldAt, Instr.sureAddr, hx, Sem.run_bind, run_underlying hu, Result.andThen, hfs, Sem.run_pure, fieldPlace, hsz]
      rw [if_neg hne]
      simp only [Sem.run_pure, Result.andThen, addr_add, hff.1.1]
  | _ => simp_all [descCk]
end
end Am
set_option linter.unusedVariables false
set_option linter.unusedSimpArgs false
namespace Am
open Go
section
variable {P : Program} {cf : Cfg} {w : World} {C : Cx}
def EqV : TK → Value → Value → Bool → Prop
  | .int _, .int k a, .int k' b, r => k = k' ∧ r = (a == b)
  | .bool, .bool a, .bool b, r => r = (a == b)
  | .str, .string a, .string b, r => r = (a.toList == b.toList)
  | _, _, _, _ => False
theorem eqCell_v {k : TK} {x y : AV} {r : Bool} {v u : Value} (h : eqCell k x y = some r) (hx : Rep w C x v) (hy : Rep w C y u) : EqV k v u r := by
  unfold eqCell at h
  split at h
  · cases hx; cases hy
    split at h
    · rename_i e; cases h; exact ⟨e, rfl⟩
    · cases h
  · cases hx; cases hy; cases h; rfl
  · cases hx; cases hy; cases h; rfl
  · cases h
theorem EqV.val {k : TK} {v u : Value} (h : EqV k v u true) : v = u := by
  unfold EqV at h
  split at h
  · obtain ⟨rfl, h⟩ := h; simp at h; rw [h]
  · simp at h; rw [h]
  · rename_i a b
    have h := eq_of_beq h.symm
    rw [ByteArray.toList_eq, ByteArray.toList_eq] at h
    have : a = b := by cases a; cases b; simp only [ByteArray.mk.injEq]; exact Array.ext' h
    rw [this]
  · cases h
theorem basicTy_f {t : TypeId} {k : TK} (h : basicTy P t k = true) : ∃ i d, P.info? t = some i ∧ P.underlying t = some d ∧ i.size = 1 ∧ basicK k = true ∧ kindD d = k := by
  unfold basicTy at h
  split at h
  · rename_i i d hi hd
    simp only [Bool.and_eq_true, beq_iff_eq, decide_eq_true_eq] at h
    exact ⟨i, d, hi, hd, h.1.1, h.1.2, h.2⟩
  · cases h
theorem run_equalIn_v {t : TypeId} {k : TK} {v u : Value} {r : Bool} (ht : basicTy P t k = true) (h : EqV k v u r) (n : Nat) (w : World) : (Op.equalIn (n + 1) t v u).run P w = .ok r w := by
  obtain ⟨i, d, hi, hd, _, hk, rfl⟩ := basicTy_f ht
  unfold EqV at h
  split at h
  · rename_i k0 k1 a k2 b hkd
    obtain ⟨rfl, rfl⟩ := h
    cases d <;> simp [kindD] at hkd
    exact run_equalIn_int w n t _ _ a b hd
  · rename_i a b hkd
    subst h
    cases d <;> simp [kindD] at hkd
    exact run_equalIn_bool' w n t a b hd
  · rename_i a b hkd
    subst h
    cases d <;> simp [kindD] at hkd
    exact run_equalIn_string w n t a b hd
  · cases h
theorem run_isAgg_basic {t : TypeId} {k : TK} (ht : basicTy P t k = true) (w : World) : (isAgg t).run P w = .ok false w := by
  obtain ⟨i, d, hi, hd, _, hk, rfl⟩ := basicTy_f ht
  simp only [isAgg, Sem.run_bind, run_underlying hd, Result.andThen]
  cases d <;> first | rfl | (simp [kindD, basicK] at hk)
theorem run_part_basic {t : TypeId} {k : TK} (ht : basicTy P t k = true) {cs : Array Value} {j : Nat} {v : Value} (hj : cs[j]? = some v) (w : World) : (part t cs j).run P w = .ok v w := by
  simp [part, run_isAgg_basic ht, hj]
def EqVs : List TK → List Value → List Value → Bool → Prop
  | [], [], [], r => r = true
  | t :: ts, x :: xs, y :: ys, r => ∃ q, EqV t x y q ∧ (q = false → r = false) ∧ (q = true → EqVs ts xs ys r)
  | _, _, _, _ => False
theorem eqCells_v : ∀ {ks : List TK} {xs ys : List AV} {r : Bool} {vs us : List Value}, eqCells ks xs ys = some r → vs.length = xs.length → us.length = ys.length →
    (∀ j, j < xs.length → Rep w C (g xs j) (vs.getD j undef)) → (∀ j, j < ys.length → Rep w C (g ys j) (us.getD j undef)) → EqVs ks vs us r
  | [], [], [], r, vs, us, h, h1, h2, h3, h4 => by
    obtain rfl := List.eq_nil_of_length_eq_zero h1
    obtain rfl := List.eq_nil_of_length_eq_zero h2
    simp only [eqCells, Option.some.injEq] at h
    exact h.symm
  | t :: ts, x :: xs, y :: ys, r, v :: vs, u :: us, h, h1, h2, h3, h4 => by
    simp only [eqCells] at h
    have hx : Rep w C x v := h3 0 (by simp)
    have hy : Rep w C y u := h4 0 (by simp)
    split at h
    · rename_i he
      exact ⟨true, eqCell_v he hx hy, fun e => (by cases e), fun _ => eqCells_v h (by simpa using h1) (by simpa using h2) (fun j hj => h3 (j + 1) (by simpa using hj)) (fun j hj => h4 (j + 1) (by simpa using hj))⟩
    · rename_i he
      cases h
      exact ⟨false, eqCell_v he hx hy, fun _ => rfl, fun e => by cases e⟩
    · cases h
  | [], _ :: _, _, r, _, _, h, _, _, _, _ => by simp [eqCells] at h
  | [], [], _ :: _, r, _, _, h, _, _, _, _ => by simp [eqCells] at h
  | _ :: _, [], _, r, _, _, h, _, _, _, _ => by simp [eqCells] at h
  | _ :: _, _ :: _, [], r, _, _, h, _, _, _, _ => by simp [eqCells] at h
  | _ :: _, _ :: _, _ :: _, r, [], _, h, h1, _, _, _ => by simp at h1
  | _ :: _, _ :: _, _ :: _, r, _ :: _, [], h, _, h2, _, _ => by simp at h2
theorem EqVs.val : ∀ {ks : List TK} {vs us : List Value}, EqVs ks vs us true → vs = us
  | [], [], [], h => rfl
  | t :: ts, x :: xs, y :: ys, h => by
    obtain ⟨q, h1, h2, h3⟩ := h
    cases q with
    | false => cases h2 rfl
    | true => rw [h1.val, EqVs.val (h3 rfl)]
  | [], _ :: _, _, h => h.elim
  | [], [], _ :: _, h => h.elim
  | _ :: _, [], _, h => h.elim
  | _ :: _, _ :: _, [], h => h.elim
theorem eqCk_f {ti : TyI} {fs : Array Field} {j : Nat} (h : eqCk P ti fs j = true) : ∃ f, fs[j]? = some f ∧ f.name ≠ "_" ∧ f.offset = j ∧ basicTy P f.type (ti.eq.getD j .other) = true := by
  unfold eqCk at h
  split at h
  · rename_i f hf
    simp only [Bool.and_eq_true, bne_iff_ne, beq_iff_eq] at h
    exact ⟨f, hf, h.1.1, h.1.2, h.2⟩
  · cases h
theorem run_eqFields {ti : TyI} {fs : Array Field} {vs us : Array Value} (hv : vs.size = fs.size) (hu : us.size = fs.size) (he : ∀ j, j < fs.size → eqCk P ti fs j = true) (n : Nat) (w : World) :
    ∀ (m j : Nat) {r : Bool}, m + j = fs.size → EqVs (ti.eq.drop j) (vs.toList.drop j) (us.toList.drop j) r → (Op.eqFields (n + 1) vs us (fs.toList.drop j)).run P w = .ok r w := by
  intro m
  induction m with
  | zero =>
    intro j r hj h
    have e1 : fs.toList.drop j = [] := List.drop_eq_nil_of_le (by simp; omega)
    have e2 : vs.toList.drop j = [] := List.drop_eq_nil_of_le (by simp; omega)
    have e3 : us.toList.drop j = [] := List.drop_eq_nil_of_le (by simp; omega)
    rw [e2, e3] at h
    rw [e1]
    cases hk : ti.eq.drop j with
    | nil => rw [hk] at h; have h : r = true := h; subst h; rfl
    | cons _ _ => rw [hk] at h; exact h.elim
  | succ m ih =>
    intro j r hj h
    obtain ⟨f, h1, h2, h3, h4⟩ := eqCk_f (he j (by omega))
    have hjf : j < fs.toList.length := by simp; omega
    have hjv : j < vs.toList.length := by simp; omega
    have hju : j < us.toList.length := by simp; omega
    rw [List.drop_eq_getElem_cons hjv, List.drop_eq_getElem_cons hju] at h
    cases hk : ti.eq.drop j with
    | nil => rw [hk] at h; exact h.elim
    | cons k ks =>
      rw [hk] at h
      obtain ⟨q, a1, a2, a3⟩ := h
      have hkk : ti.eq.getD j .other = k := by
        have : (ti.eq.drop j)[0]? = some k := by rw [hk]; rfl
        rw [List.getElem?_drop] at this
        simp at this
        simp [List.getD_eq_getElem?_getD, this]
      have hks : ti.eq.drop (j + 1) = ks := by
        rw [← List.tail_drop, hk]; rfl
      rw [List.drop_eq_getElem_cons hjf]
      have hf : fs.toList[j] = f := by
        have := h1; rw [Array.getElem?_eq_getElem (by simpa using hjf)] at this
        simpa using this
      rw [hf]
      unfold Op.eqFields
      rw [if_pos h2]
      have p1 : (part f.type vs f.offset).run P w = .ok vs.toList[j] w := run_part_basic h4 (by rw [h3]; simp at hjv; simp [hjv]) w
      have p2 : (part f.type us f.offset).run P w = .ok us.toList[j] w := run_part_basic h4 (by rw [h3]; simp at hju; simp [hju]) w
      rw [hkk] at h4
      simp only [Sem.run_bind, p1, p2, Result.andThen, run_equalIn_v h4 a1]
      cases q with
      | false => rw [a2 rfl]; rfl
      | true =>
        simp only [Bool.not_true, Bool.false_eq_true, if_false]
        exact ih (j + 1) (by omega) (by rw [hks]; exact a3 rfl)
theorem run_eqItems {e : TypeId} {fi : TypeInfo} (hi : P.info? e = some fi) (h1 : fi.size = 1) {vs us : Array Value} (n : Nat) (w : World) :
    ∀ (m j : Nat) {ks : List TK} {r : Bool}, (∀ k, k ∈ ks → basicTy P e k = true) → m + j ≤ vs.size → m + j ≤ us.size → EqVs ks ((vs.toList.drop j).take m) ((us.toList.drop j).take m) r →
      (Op.eqItems (n + 1) e (P.cellsOf e) vs us (List.range' j m)).run P w = .ok r w := by
  have hc : P.cellsOf e = 1 := by simp [Program.cellsOf, hi, h1]
  intro m
  induction m with
  | zero =>
    intro j ks r hk hj hj2 h
    cases ks with
    | nil => have h : r = true := h; subst h; rfl
    | cons _ _ => exact h.elim
  | succ m ih =>
    intro j ks r hk hj hj2 h
    have hjv : j < vs.toList.length := by simp; omega
    have hju : j < us.toList.length := by simp; omega
    rw [List.drop_eq_getElem_cons hjv, List.drop_eq_getElem_cons hju, List.take_succ_cons, List.take_succ_cons] at h
    cases ks with
    | nil => exact h.elim
    | cons k ks =>
      obtain ⟨q, a1, a2, a3⟩ := h
      have h4 := hk k (by simp)
      have p1 : (part e vs (j * P.cellsOf e)).run P w = .ok vs.toList[j] w := run_part_basic h4 (by rw [hc]; simp at hjv; simp [hjv]) w
      have p2 : (part e us (j * P.cellsOf e)).run P w = .ok us.toList[j] w := run_part_basic h4 (by rw [hc]; simp at hju; simp [hju]) w
      rw [List.range'_succ]
      unfold Op.eqItems
      simp only [Sem.run_bind, p1, p2, Result.andThen, run_equalIn_v h4 a1]
      cases q with
      | false => rw [a2 rfl]; rfl
      | true =>
        simp only [Bool.not_true, Bool.false_eq_true, if_false]
        exact ih (j + 1) (fun k hk' => hk k (by simp [hk'])) (by omega) (by omega) (a3 rfl)
theorem size_one {t : TypeId} {ti : TyI} {i : TypeInfo} {z : Value} {n e : Nat} (F : TyF P t ti i z (.array n e)) (h0 : 0 < n) (hn : n = ti.sz) (hb : ∀ k, k ∈ ti.eq → basicTy P e k = true) (hl : ti.eq.length = n) : ∃ fi, P.info? e = some fi ∧ fi.size = 1 := by
  cases hq : ti.eq with
  | nil => rw [hq] at hl; simp at hl; omega
  | cons k ks =>
    obtain ⟨fi, d, h1, _, h2, _⟩ := basicTy_f (hb k (by rw [hq]; simp))
    exact ⟨fi, h1, h2⟩
theorem run_equalIn_agg_v {t : TypeId} {ti : TyI} {i : TypeInfo} {z : Value} {d : TypeDesc} (F : TyF P t ti i z d) (ha : ti.agg = true) (hq : someB ti.eq = true) {vs us : Array Value} (hv : vs.size = ti.sz) (hu : us.size = ti.sz)
    {r : Bool} (h : EqVs ti.eq vs.toList us.toList r) (n : Nat) (w : World) : (Op.equalIn (n + 2) t (.agg vs) (.agg us)).run P w = .ok r w := by
  have hd := F.desc
  have hund := F.und
  have hnb : nilB ti.eq = false := by cases he : ti.eq with
    | nil => rw [he] at hq; cases hq
    | cons _ _ => rfl
  have hpos : 0 < ti.eq.length := by cases he : ti.eq with
    | nil => rw [he] at hq; cases hq
    | cons _ _ => simp
  cases d with
  | struct fs =>
    simp only [descCk, Bool.and_eq_true, Bool.or_eq_true, hnb, eqS, Bool.not_eq_true', beq_iff_eq, List.all_eq_true, List.mem_range] at hd
    have hE := hd.2.resolve_left (by simp)
    obtain ⟨⟨⟨⟨e1, e2⟩, e3⟩, e4⟩, e5⟩ := hE
    have hfo : P.fieldsOf t = fs := by simp [Program.fieldsOf, hund]
    rw [run_equalIn_struct w (n + 1) t vs us (by rw [hfo]; exact hund) e1, hfo]
    exact run_eqFields (ti := ti) (fs := fs) (by omega) (by omega) e5 n w fs.size 0 (by omega) h
  | array m e =>
    simp only [descCk, Bool.and_eq_true, Bool.or_eq_true, hnb, eqE, Bool.not_eq_true', beq_iff_eq, List.all_eq_true, List.mem_range] at hd
    have hE := hd.1.2.resolve_left (by simp)
    obtain ⟨⟨⟨e1, e2⟩, e3⟩, e4⟩ := hE
    obtain ⟨fi, g1, g2⟩ := size_one F (by omega) e3 e4 e2
    rw [run_equalIn_array w (n + 1) vs us hund g1, List.range_eq_range']
    refine run_eqItems g1 g2 n w m 0 e4 (by omega) (by omega) ?_
    rw [List.drop_zero, List.drop_zero, List.take_of_length_le (by simp; omega), List.take_of_length_le (by simp; omega)]
    exact h
  | _ => simp_all [descCk]
theorem TyF.eqf {t : TypeId} {ti : TyI} {i : TypeInfo} {z : Value} {d : TypeDesc} (F : TyF P t ti i z d) (ha : ti.agg = true) (hq : someB ti.eq = true) : ti.eq.length = ti.sz ∧ P.eqGuardType P.depth t = false := by
  have hd := F.desc
  have hnb : nilB ti.eq = false := by cases he : ti.eq with
    | nil => rw [he] at hq; cases hq
    | cons _ _ => rfl
  cases d with
  | struct fs =>
    simp only [descCk, Bool.and_eq_true, Bool.or_eq_true, hnb, eqS, Bool.not_eq_true', beq_iff_eq, List.all_eq_true, List.mem_range] at hd
    have hE := hd.2.resolve_left (by simp)
    exact ⟨by omega, hE.1.1.1.2⟩
  | array m e =>
    simp only [descCk, Bool.and_eq_true, Bool.or_eq_true, hnb, eqE, Bool.not_eq_true', beq_iff_eq, List.all_eq_true, List.mem_range] at hd
    have hE := hd.1.2.resolve_left (by simp)
    exact ⟨by omega, hE.1.1.1⟩
  | _ => simp_all [descCk]
theorem run_checkKey_basic {t : TypeId} {k : TK} (ht : basicTy P t k = true) (em : Bool) (v : Value) (n : Nat) (w : World) : (Instr.checkKey em (n + 1) t v).run P w = .ok () w := by
  obtain ⟨i, d, hi, hd, _, hk, rfl⟩ := basicTy_f ht
  unfold Instr.checkKey
  simp only [Sem.run_bind, run_underlying hd, Result.andThen]
  cases d <;> first | rfl | (simp [kindD, basicK] at hk)
theorem run_checkKey_agg {t : TypeId} {ti : TyI} {i : TypeInfo} {z : Value} {d : TypeDesc} (F : TyF P t ti i z d) (ha : ti.agg = true) (hq : someB ti.eq = true) {vs : Array Value} (hv : vs.size = ti.sz) (em : Bool) (n : Nat) (w : World) :
    (Instr.checkKey em (n + 2) t (.agg vs)).run P w = .ok () w := by
  have hd := F.desc
  have hund := F.und
  have hnb : nilB ti.eq = false := by cases he : ti.eq with
    | nil => rw [he] at hq; cases hq
    | cons _ _ => rfl
  have hpos : 0 < ti.eq.length := by cases he : ti.eq with
    | nil => rw [he] at hq; cases hq
    | cons _ _ => simp
  cases d with
  | struct fs =>
    simp only [descCk, Bool.and_eq_true, Bool.or_eq_true, hnb, eqS, Bool.not_eq_true', beq_iff_eq, List.all_eq_true, List.mem_range] at hd
    have hE := hd.2.resolve_left (by simp)
    obtain ⟨⟨⟨⟨e1, e2⟩, e3⟩, e4⟩, e5⟩ := hE
    rw [Instr.checkKey]
    simp only [Sem.run_bind, run_underlying hund, Result.andThen_ok]
    rw [← Array.forIn_toList]
    have each : ∀ f, f ∈ fs.toList → ∃ j, j < vs.size ∧ f.name ≠ "_" ∧ f.offset = j ∧ ∃ k, basicTy P f.type k = true := fun f hf => by
      obtain ⟨j, hj, rfl⟩ := List.getElem_of_mem hf
      simp at hj
      obtain ⟨f', a1, a2, a3, a4⟩ := eqCk_f (e5 j hj)
      have : f' = fs.toList[j] := by have := a1; simp [hj] at this; simp [this]
      subst this
      exact ⟨j, by omega, a2, a3, _, a4⟩
    generalize fs.toList = L at each
    induction L with
    | nil => simp
    | cons f L ih =>
      obtain ⟨j, hj, hn, ho, k, hb⟩ := each f (by simp)
      have p1 : (part f.type vs f.offset).run P w = .ok vs[j] w := run_part_basic hb (by rw [ho]; simp [hj]) w
      have p2 := run_checkKey_basic hb em vs[j] n w
      simp only [List.forIn_cons, Sem.run_bind, hn, ne_eq, not_false_eq_true, if_true, Result.andThen_ok, p1, p2, Sem.run_pure]
      exact ih (fun y hy => each y (by simp [hy]))
  | array m e =>
    simp only [descCk, Bool.and_eq_true, Bool.or_eq_true, hnb, eqE, Bool.not_eq_true', beq_iff_eq, List.all_eq_true, List.mem_range] at hd
    have hE := hd.1.2.resolve_left (by simp)
    obtain ⟨⟨⟨e1, e2⟩, e3⟩, e4⟩ := hE
    obtain ⟨fi, g1, g2⟩ := size_one F (by omega) e3 e4 e2
    obtain ⟨k, hk⟩ : ∃ k, k ∈ ti.eq := by cases hq : ti.eq with
      | nil => rw [hq] at hpos; simp at hpos
      | cons k ks => exact ⟨k, by simp⟩
    have hb := e4 k hk
    have hc : P.cellsOf e = 1 := by simp [Program.cellsOf, g1, g2]
    rw [Instr.checkKey]
    simp only [Sem.run_bind, run_underlying hund, Result.andThen_ok]
    simp only [Std.Legacy.Range.forIn_eq_forIn_range', Std.Legacy.Range.size, Nat.sub_zero, Nat.add_one_sub_one, Nat.div_one]
    have each : ∀ j, j ∈ List.range' 0 m → j < vs.size := fun j hj => by
      have := List.mem_range'_1.1 hj; omega
    generalize List.range' 0 m = is at each
    induction is with
    | nil => simp
    | cons j is ih =>
      have hj := each j (by simp)
      have p1 : (part e vs (j * P.cellsOf e)).run P w = .ok vs[j] w := run_part_basic hb (by rw [hc]; simp [hj]) w
      have p2 := run_checkKey_basic hb em vs[j] n w
      simp only [List.forIn_cons, Sem.run_bind, run_sizeOf w g1, Result.andThen_ok, p1, p2, Sem.run_pure]
      exact ih (fun y hy => each y (by simp [hy]))
  | _ => simp_all [descCk]
def KeyV (ks : List TK) (v u : Value) (r : Bool) : Prop := match v, u with
  | .agg vs, .agg us => vs.size = ks.length ∧ us.size = ks.length ∧ EqVs ks vs.toList us.toList r
  | v, u => ∃ t, ks = [t] ∧ EqV t v u r
theorem eqKey_v {ks : List TK} {x y : AV} {r : Bool} {v u : Value} (h : eqKey ks x y = some r) (hx : Rep w C x v) (hy : Rep w C y u) : KeyV ks v u r := by
  unfold eqKey at h
  split at h
  · cases hx with
    | agg vs hs h1 hr =>
      cases hy with
      | agg us hs' h1' hr' =>
        split at h
        case isFalse => cases h
        rename_i hl
        refine ⟨by omega, by omega, ?_⟩
        exact eqCells_v h (by simpa using hs) (by simpa using hs') (fun j hj => by simpa [g, Array.getD_eq_getD_getElem?, List.getD_eq_getElem?_getD] using hr j hj) (fun j hj => by simpa [g, Array.getD_eq_getD_getElem?, List.getD_eq_getElem?_getD] using hr' j hj)
  · split at h
    · have e := eqCell_v h hx hy
      unfold KeyV
      split
      · exfalso; unfold EqV at e; split at e <;> simp_all
      · exact ⟨_, rfl, e⟩
    · cases h
theorem KeyV.val {ks : List TK} {v u : Value} (h : KeyV ks v u true) : v = u := by
  unfold KeyV at h
  split at h
  · rename_i vs us
    have := h.2.2.val
    rw [show vs = us from Array.ext' this]
  · obtain ⟨t, _, h⟩ := h
    exact h.val
theorem EqV.bits {k : TK} {v u : Value} {r : Bool} (h : EqV k v u r) (n : Nat) : Instr.sameBits n v v = true := by
  unfold EqV at h
  split at h <;> first | (cases h; done) | (cases n <;> simp [Instr.sameBits, beq_toListBytes])
theorem EqVs.bits : ∀ {ks : List TK} {vs us : List Value}, EqVs ks vs us true → ∀ n x, x ∈ vs → Instr.sameBits n x x = true
  | [], [], [], h, n, x, hx => by cases hx
  | t :: ts, v :: vs, u :: us, h, n, x, hx => by
    obtain ⟨q, h1, h2, h3⟩ := h
    cases q with
    | false => cases h2 rfl
    | true =>
      rcases List.mem_cons.1 hx with rfl | hx
      · exact h1.bits n
      · exact EqVs.bits (h3 rfl) n x hx
  | [], _ :: _, _, h, n, x, hx => h.elim
  | [], [], _ :: _, h, n, x, hx => h.elim
  | _ :: _, [], _, h, n, x, hx => h.elim
  | _ :: _, _ :: _, [], h, n, x, hx => h.elim
theorem KeyV.stays {ks : List TK} {v u : Value} (h : KeyV ks v u true) (w : World) : (Instr.keyThatStays u v).run P w = .ok v w := by
  have e := h.val
  subst e
  have : Instr.sameBits 10000 v v = true := by
    have other : (∃ t, ks = [t] ∧ EqV t v v true) → Instr.sameBits 10000 v v = true := fun ⟨t, _, h⟩ => h.bits 10000
    cases v with
    | agg vs =>
      have h : EqVs ks vs.toList vs.toList true := h.2.2
      have hb := h.bits 9999
      show ((vs.size == vs.size) && (vs.toList.zip vs.toList).all fun (x, y) => Instr.sameBits 9999 x y) = true
      simp only [beq_self_eq_true, Bool.true_and, List.all_eq_true]
      rintro ⟨x, y⟩ hxy
      have h1 : ∀ (l : List Value), (x, y) ∈ l.zip l → x = y ∧ x ∈ l := by
        intro l
        induction l with
        | nil => simp
        | cons a l ih =>
          intro h
          rw [List.zip_cons_cons] at h
          rcases List.mem_cons.1 h with e | h
          · cases e; exact ⟨rfl, by simp⟩
          · obtain ⟨e, m⟩ := ih h; exact ⟨e, by simp [m]⟩
      obtain ⟨rfl, hm⟩ := h1 _ hxy
      exact hb x hm
    | _ => exact other h
  simp [Instr.keyThatStays, this]
def FindV (ks : List TK) (v : Value) : List MapEntry → Nat → Option Nat → Prop
  | [], _, r => r = none
  | e :: es, i, r => ∃ q, KeyV ks v e.key q ∧ (q = true → r = some i) ∧ (q = false → FindV ks v es (i + 1) r)
theorem findA_v {ks : List TK} {key : AV} {v : Value} (hv : Rep w C key v) : ∀ {es : List (AV × AV)} {ms : List MapEntry} {i : Nat} {r : Option Nat}, findA ks key es i = some r → ms.length = es.length →
    (∀ j, j < es.length → ∃ m, ms[j]? = some m ∧ Rep w C (es.getD j (.any, .any)).1 m.key) → FindV ks v ms i r
  | [], ms, i, r, h, hl, hm => by
    obtain rfl := List.eq_nil_of_length_eq_zero hl
    simp only [findA, Option.some.injEq] at h
    exact h.symm
  | (k, x) :: es, m :: ms, i, r, h, hl, hm => by
    obtain ⟨m', h1, h2⟩ := hm 0 (by simp)
    simp at h1; subst h1
    simp only [findA] at h
    have rest : ∀ j, j < es.length → ∃ m, ms[j]? = some m ∧ Rep w C (es.getD j (.any, .any)).1 m.key := fun j hj => by
      obtain ⟨m', h1, h2⟩ := hm (j + 1) (by simpa using hj)
      exact ⟨m', by simpa using h1, h2⟩
    split at h
    · rename_i he; cases h; exact ⟨true, eqKey_v he hv h2, fun _ => rfl, fun e => by cases e⟩
    · rename_i he; exact ⟨false, eqKey_v he hv h2, fun e => (by cases e), fun _ => findA_v hv h (by simpa using hl) rest⟩
    · cases h
  | _ :: _, [], i, r, h, hl, hm => by simp at hl
theorem FindV.lt {ks : List TK} {v : Value} : ∀ {ms : List MapEntry} {i : Nat} {r : Option Nat}, FindV ks v ms i r → ∀ j, r = some j → ∃ m, i ≤ j ∧ ms[j - i]? = some m ∧ KeyV ks v m.key true
  | [], i, r, h, j, hj => by rw [hj] at h; cases (show some j = none from h)
  | e :: es, i, r, h, j, hj => by
    obtain ⟨q, h1, h2, h3⟩ := h
    cases q with
    | true =>
      have := h2 rfl
      rw [hj] at this; cases this
      exact ⟨e, Nat.le_refl _, by simp, h1⟩
    | false =>
      obtain ⟨m, a, b, c⟩ := FindV.lt (h3 rfl) j hj
      exact ⟨m, by omega, by rw [show j - i = j - (i + 1) + 1 from by omega]; simpa using b, c⟩
theorem sameNow_v {d : TypeDesc} {v u : Value} {q : Bool} (h : EqV (kindD d) v u q) (hb : basicK (kindD d) = true) : Instr.sameNow d v u = some q := by
  unfold EqV at h
  split at h
  · rename_i k0 k1 a k2 b hk
    obtain ⟨rfl, rfl⟩ := h
    cases d <;> simp [kindD] at hk
    simp [Instr.sameNow]
  · rename_i a b hk
    subst h
    cases d <;> simp [kindD] at hk
    simp [Instr.sameNow]
  · rename_i a b hk
    subst h
    cases d <;> simp [kindD] at hk
    simp [Instr.sameNow, beq_toListBytes]
  · cases h
theorem run_find_basic {t : TypeId} {k : TK} (ht : basicTy P t k = true) {v : Value} (hnv : ∀ vs, v ≠ .agg vs) (w : World) : ∀ {ms : List MapEntry} {i : Nat} {r : Option Nat}, FindV [k] v ms i r →
    ∃ d, P.underlying t = some d ∧ Instr.findNow d v ms i = some (r.bind fun j => (ms[j - i]?).map fun m => (j, m.val)) := by
  obtain ⟨fi, d, hi, hd, _, hk, rfl⟩ := basicTy_f ht
  intro ms
  induction ms with
  | nil => intro i r h; have h : r = none := h; subst h; exact ⟨d, hd, rfl⟩
  | cons e ms ih =>
    intro i r h
    have h' := h
    obtain ⟨q, h1, h2, h3⟩ := h
    have h4 : EqV (kindD d) v e.key q := by
      unfold KeyV at h1
      split at h1
      · exact absurd rfl (hnv _)
      · obtain ⟨t, e1, e2⟩ := h1
        simp only [List.cons.injEq, and_true] at e1
        rw [e1]; exact e2
    have h5 := sameNow_v h4 hk
    refine ⟨d, hd, ?_⟩
    unfold Instr.findNow
    cases q with
    | true =>
      rw [h5, h2 rfl]
      simp
    | false =>
      obtain ⟨d', g1, g2⟩ := ih (h3 rfl)
      rw [hd] at g1; cases g1
      rw [h5]
      simp only
      rw [g2]
      cases r with
      | none => rfl
      | some j =>
        obtain ⟨m, a, b, c⟩ := FindV.lt (h3 rfl) j rfl
        simp only [Option.bind_some, Option.some.injEq]
        rw [show j - i = j - (i + 1) + 1 from by omega]
        simp
theorem run_asking {t : TypeId} {ti : TyI} {i : TypeInfo} {z : Value} {d : TypeDesc} (F : TyF P t ti i z d) (ha : ti.agg = true) (hq : someB ti.eq = true) {vs : Array Value} (hv : vs.size = ti.sz) (w : World) :
    ∀ {ms : List MapEntry} {i : Nat} {r : Option Nat}, FindV ti.eq (.agg vs) ms i r → (Instr.findAsking t (.agg vs) ms i).run P w = .ok (r.bind fun j => (ms[j - i]?).map fun m => (j, m.val)) w
  | [], i, r, h => by have h : r = none := h; subst h; rfl
  | e :: ms, i, r, h => by
    obtain ⟨q, h1, h2, h3⟩ := h
    obtain ⟨us, h4, h5, h1⟩ : ∃ us, e.key = .agg us ∧ us.size = ti.sz ∧ EqVs ti.eq vs.toList us.toList q := by
      unfold KeyV at h1
      split at h1
      · rename_i vs' us hv' hu'; cases hv'; exact ⟨us, hu', by rw [← (F.eqf ha hq).1]; exact h1.2.1, h1.2.2⟩
      · obtain ⟨t, _, h1⟩ := h1; unfold EqV at h1; split at h1 <;> simp_all
    have run := run_equalIn_agg_v F ha hq hv h5 h1 9998 w
    unfold Instr.findAsking
    have run' : (Op.equal t (.agg vs) (.agg us)).run P w = .ok q w := run
    rw [h4]
    simp only [Sem.run_bind, run', Result.andThen]
    cases q with
    | true => rw [h2 rfl]; simp
    | false =>
      simp only [Bool.false_eq_true, if_false]
      rw [run_asking F ha hq hv w (h3 rfl)]
      cases r with
      | none => rfl
      | some j =>
        obtain ⟨m, a, b, c⟩ := FindV.lt (h3 rfl) j rfl
        simp only [Option.bind_some]
        rw [show j - i = j - (i + 1) + 1 from by omega]
        simp
end
end Am
set_option linter.unusedVariables false
set_option linter.unusedSimpArgs false
namespace Am
open Go
section
variable {P : Program} {cf : Cfg} {fz : Fz} {b : Base} {env : Env} {loc : Loc} {h : Heap} {a : Act} {w : World} {C : Cx} {β : Nat → Option Nat} {k : K} {o : Oper} {Q : Exit → Act → World → Prop}
theorem asAV_rep (H : SR b env loc h a w C β) {x : Operand} {k : AV → Prop} (hk : asAV (ev env x) k) : ∃ v, Rep w C v (a.eval x) ∧ k v := by
  obtain ⟨v, h1, h2⟩ := asAV_elim hk
  exact ⟨v, (ev_rep H x).asV h1, h2⟩
theorem op_field (HT : TabOk P cf) (H : SR b env loc h a w C β) {t : TypeId} {x : Operand} {f : Nat} (ho : o.op = .fieldAddr t x f) (hty : opTy cf o = true) (hk : aop P cf fz o env loc h k) : Oper.wp P o a w (Next b fz env loc k) Q := by
  simp only [opTy, ho] at hty
  split at hty
  case h_2 => cases hty
  rename_i hty' harr
  obtain ⟨i, z, d, F⟩ := tyCheck_f (HT.2 t hty')
  obtain ⟨fi, fz', fd, F2⟩ := tyCheck_f (HT.2 _ hty)
  have hf : f < (cf.ty t).flds.length := by
    rcases Nat.lt_or_ge f (cf.ty t).flds.length with h | h
    · exact h
    · rw [List.getD_eq_getElem?_getD, List.getElem?_eq_none h] at hty
      simp only [Option.getD_none] at hty
      rw [HT.1] at hty; cases hty
  have hx := ev_rep H x
  have hl := ev_lkey H x
  simp only [aop, ho] at hk
  split at hk
  · rename_i u off he
    rw [he] at hx
    obtain ⟨x0, h1, h2⟩ := hx
    refine wp_same H (run_field_op F hty' ho harr hf F2 hty h2) (y := .loc u _) ⟨x0, h1, rfl⟩ (fun u' o' e => by cases e; exact hl u off he) hk
  · rename_i p he
    rw [he] at hx
    have hx' : Rep w C p (a.eval x) := hx
    unfold fldA at hk
    generalize hv : a.eval x = va at hx'
    split at hk
    · cases hx' with
      | ro vs him hc hr =>
        refine wp_same H (run_field_op F hty' ho harr hf F2 hty hv) (y := .av _) ?_ av_lkey hk
        refine Rep.ro (fun j => vs (((cf.ty t).flds.getD f (0, 0)).1 + j)) him (fun j hj => ?_) (fun j hj => ?_)
        · rw [Nat.add_assoc]
          exact hc _ (by rw [List.length_drop] at hj; omega)
        · show Rep w C (g (List.drop _ _) j) _
          rw [g_drop]
          exact hr _ (by rw [List.length_drop] at hj; omega)
    · cases hx' with
      | op hm =>
        refine wp_same H (run_field_op F hty' ho harr hf F2 hty hv) (y := .av _) ?_ av_lkey hk
        rw [Nat.add_assoc]
        exact Rep.op hm
    · cases hk
  · exact (show False from hk).elim
theorem rep_int {kd : IntKind} {n : Int} {v : Value} (hv : Rep w C (.val (.int kd n)) v) : v = .int kd n := by cases hv; rfl
theorem rep_val {u v : Value} (hv : Rep w C (.val u) v) : v = u := by cases hv; rfl
theorem idxA_elim {es : Nat} {x i : AV} {k : AV → Prop} (hk : idxA es x i h k) : ∃ kd n, i = .val (.int kd n) ∧ 0 ≤ n ∧
    ((∃ els, x = .rs es els ∧ n < els.length ∧ k (.ro (els.getD n.toNat []))) ∨ ∃ id len els, x = .os id len ∧ h id = some (.arr es els) ∧ n < len ∧ len ≤ els.length ∧ k (.op id n.toNat 0)) := by
  unfold idxA at hk
  split at hk
  · rename_i kd n
    refine ⟨kd, n, rfl, ?_⟩
    split at hk
    · obtain ⟨rfl, h0, h1, h2⟩ := hk
      exact ⟨h0, .inl ⟨_, rfl, h1, h2⟩⟩
    · split at hk
      · rename_i hh
        obtain ⟨rfl, h0, h1, h2, h3⟩ := hk
        exact ⟨h0, .inr ⟨_, _, _, rfl, hh, h1, h2, h3⟩⟩
      · cases hk
    · cases hk
  · cases hk
theorem op_idx (HT : TabOk P cf) (H : SR b env loc h a w C β) {t : TypeId} {x ix : Operand} (ho : o.op = .indexAddr t x ix) (hty : opTy cf o = true) (hk : aop P cf fz o env loc h k) : Oper.wp P o a w (Next b fz env loc k) Q := by
  simp only [opTy, ho] at hty
  split at hty
  case h_2 => cases hty
  rename_i hty'
  obtain ⟨i, z, d, F⟩ := tyCheck_f (HT.2 t hty')
  obtain ⟨ei, ez, ed, F2⟩ := tyCheck_f (HT.2 _ hty)
  have hu := F.slice HT hty
  simp only [aop, ho] at hk
  obtain ⟨xv, hx, hk⟩ := asAV_rep H hk
  obtain ⟨iv, hi, hk⟩ := asAV_rep H hk
  obtain ⟨kd, n, rfl, h0, hk⟩ := idxA_elim (drK_elim hk)
  have hi' := rep_int hi
  have run : ∀ (bb off len cap : Nat), a.eval x = .slice (some ⟨bb, off, none⟩) len cap → n < len →
      (execOp a.eval o).run P w = .ok (.value (.pointer (some ⟨bb, off + n.toNat * (cf.ty (cf.ty t).elem).sz, none⟩))) w := by
    intro bb off len cap e h1
    simp only [execOp, ho, Instr.indexAt, asIntOf, hi', e, Sem.run_bind, Sem.run_pure, run_underlying hu, Result.andThen, Bool.and_false]
    simp only [h0, h1, and_self, if_true, Sem.run_bind, F2.run_sizeOf, Result.andThen, Sem.run_pure, addr_add]
  rcases hk with ⟨els, rfl, h1, hk⟩ | ⟨id, len, els, rfl, hh, h1, h2, hk⟩
  · generalize hv : a.eval x = va at hx
    cases hx with
    | rs0 => simp at h1; omega
    | rs vs him hcap hsz hc hr =>
      refine wp_same H (run _ _ _ _ hv h1) (y := .av _) ?_ av_lkey hk
      have hn : n.toNat < els.length := by omega
      refine Rep.ro (fun j => vs n.toNat j) him (fun j hj => ?_) (fun j hj => ?_)
      · exact hc _ j hn (by rw [hsz _ hn] at hj; exact hj)
      · exact hr _ j hn (by rw [hsz _ hn] at hj; exact hj)
  · generalize hv : a.eval x = va at hx
    cases hx with
    | os hm hl hn =>
      refine wp_same H (run _ _ _ _ hv h1) (y := .av _) ?_ av_lkey hk
      obtain ⟨ow, h4, h5, h6⟩ := H.ev.rel.own id _ hh
      rw [h4] at hm; cases hm
      have := Rep.op (w := w) (C := C) (ix := n.toNat) (off := 0) h4
      rw [h6.1] at this
      show Rep w C _ _
      simpa using this
theorem strA_elim {x i : AV} {k : AV → Prop} (hk : strA x i k) : ∃ s kd n, x = .val (.string s) ∧ i = .val (.int kd n) ∧ 0 ≤ n ∧ n < s.size ∧ k (.val (.int .u8 ((s.data.toList.getD n.toNat 0).toNat))) := by
  unfold strA at hk
  split at hk
  · obtain ⟨h0, h1, h2⟩ := hk
    exact ⟨_, _, _, rfl, rfl, h0, h1, h2⟩
  · cases hk
theorem op_str (HT : TabOk P cf) (H : SR b env loc h a w C β) {t : TypeId} {x ix : Operand} (ho : o.op = .index t x ix) (hty : opTy cf o = true) (hk : aop P cf fz o env loc h k) : Oper.wp P o a w (Next b fz env loc k) Q := by
  simp only [opTy, ho] at hty
  split at hty
  case h_2 => cases hty
  rename_i h1 h2
  obtain ⟨i, z, d, F⟩ := tyCheck_f (HT.2 t h1)
  have ht := F.str h2
  simp only [aop, ho] at hk
  obtain ⟨xv, hx, hk⟩ := asAV_rep H hk
  obtain ⟨iv, hi, hk⟩ := asAV_rep H hk
  obtain ⟨s, kd, n, rfl, rfl, h0, h1, hk⟩ := strA_elim hk
  have hi' := rep_int hi
  have hx' := rep_val hx
  refine wp_same H (v := .int .u8 ((s.data.toList.getD n.toNat 0).toNat)) ?_ (y := .av _) (.val rfl) av_lkey hk
  have hn : n.toNat < s.size := by omega
  have hs : s[n.toNat]? = some (s[n.toNat]'hn) := by simp [hn]
  have he : s.data.toList.getD n.toNat 0 = s[n.toNat]'hn := by
    have hn' : n.toNat < s.data.size := hn
    rw [List.getD_eq_getElem?_getD, Array.getElem?_toList, Array.getElem?_eq_getElem hn']; rfl
  simp only [execOp, ho, Instr.index, asIntOf, hi', hx', Sem.run_bind, Sem.run_pure, run_underlying ht, Result.andThen, h0, if_true, hs, he]
theorem binA_elim {op : BinOp} {x y : AV} {k : AV → Prop} (hk : binA op x y k) : ∃ v, abin op x y = some v ∧ k v := by
  unfold binA at hk
  split at hk
  · exact ⟨_, ‹_›, hk⟩
  · cases hk
theorem run_intBin {op : BinOp} {kd : IntKind} {m n : Int} {v : AV} (hv : intBin op kd m n = some v) (t : TypeId) (w : World) : ∃ u, v = .val u ∧ plain u = true ∧ (binOp op t (.int kd m) (.int kd n)).run P w = .ok u w := by
  unfold intBin at hv
  split at hv <;> first
    | (cases hv; exact ⟨_, rfl, rfl, by simp [binOp, Op.intArith, Op.intCmp, Op.intBits]⟩)
    | (split at hv
       · cases hv
       · cases hv; exact ⟨_, rfl, rfl, by simp [binOp, Op.intDiv, *]⟩)
    | (cases hv)
theorem run_strBin {op : BinOp} {m n : ByteArray} {v : AV} (hv : strBin op m n = some v) (t : TypeId) (w : World) : ∃ u, v = .val u ∧ plain u = true ∧ (binOp op t (.string m) (.string n)).run P w = .ok u w := by
  unfold strBin at hv
  split at hv
  · split at hv
    · cases hv
      refine ⟨_, rfl, rfl, ?_⟩
      have : ¬ (((m.size + n.size : Nat) : Int) > IntKind.i64.max) := by
        have : IntKind.i64.max = 9223372036854775807 := by decide
        omega
      simp only [binOp, Op.stringOp]
      rw [if_neg this]; rfl
    · cases hv
  · cases hv; exact ⟨_, rfl, rfl, by simp [binOp, Op.stringOp]⟩
  · cases hv; exact ⟨_, rfl, rfl, by simp [binOp, Op.stringOp]⟩
  · cases hv
theorem run_abin {op : BinOp} {x y v : AV} {vx vy : Value} (hv : abin op x y = some v) (hx : Rep w C x vx) (hy : Rep w C y vy) (t : TypeId) (w' : World) :
    ∃ u, v = .val u ∧ plain u = true ∧ (binOp op t vx vy).run P w' = .ok u w' ∧ ((∀ c d w'', (eqGuard op t c d vx vy).run P w'' = .ok () w'')) := by
  unfold abin at hv
  split at hv
  · split at hv
    · rename_i e; subst e
      obtain rfl := rep_val hx
      obtain rfl := rep_val hy
      obtain ⟨u, h1, h2, h3⟩ := run_intBin hv t w'
      exact ⟨u, h1, h2, h3, fun c d w'' => by unfold eqGuard; split <;> rfl⟩
    · cases hv
  · obtain rfl := rep_val hx
    obtain rfl := rep_val hy
    obtain ⟨u, h1, h2, h3⟩ := run_strBin hv t w'
    exact ⟨u, h1, h2, h3, fun c d w'' => by unfold eqGuard; split <;> rfl⟩
  · cases hv
theorem run_equal_bool {t : TypeId} (ht : P.underlying t = some .bool) (m n : Bool) (w' : World) : ∀ d, (Op.equalIn (d + 1) t (.bool m) (.bool n)).run P w' = .ok (m == n) w' := by
  intro d
  simp only [Op.equalIn, Sem.run_bind, run_underlying ht, Result.andThen, Sem.run_pure]
theorem run_bin_op {op : BinOp} {t u : TypeId} {x y : Operand} {v : Value} (ho : o.op = .binOp op t x y u) (hg : ∀ w'', (eqGuard op t x y (a.eval x) (a.eval y)).run P w'' = .ok () w'') (hr : (binOp op t (a.eval x) (a.eval y)).run P w = .ok v w) : (execOp a.eval o).run P w = .ok (.value v) w := by
  simp [execOp, ho, hg, hr]
theorem eqbA_elim {neg : Bool} {x y : AV} {k : AV → Prop} (hk : eqbA neg x y k) : ∃ m n, x = .val (.bool m) ∧ y = .val (.bool n) ∧ k (B (if neg then !(m == n) else m == n)) := by
  unfold eqbA at hk
  split at hk
  · exact ⟨_, _, rfl, rfl, hk⟩
  · cases hk
theorem notA_elim {x : AV} {k : AV → Prop} (hk : notA x k) : ∃ m, x = .val (.bool m) ∧ k (B (!m)) := by
  unfold notA at hk
  split at hk
  · exact ⟨_, rfl, hk⟩
  · cases hk
theorem tupA_elim {x : AV} {i : Nat} {k : AV → Prop} (hk : tupA x i k) : ∃ vs, x = .tup vs ∧ i < vs.length ∧ k (vs.getD i .any) := by
  unfold tupA at hk
  split at hk
  · exact ⟨_, rfl, hk⟩
  · cases hk
theorem op_bin (HT : TabOk P cf) (H : SR b env loc h a w C β) {op : BinOp} {t u : TypeId} {x y : Operand} (ho : o.op = .binOp op t x y u) (hty : opTy cf o = true) (hk : aop P cf fz o env loc h k) : Oper.wp P o a w (Next b fz env loc k) Q := by
  obtain ⟨hty', hagg⟩ : pos (cf.ty t).sz = true ∧ ((cf.ty t).agg = true → someB (cf.ty t).eq = true) := by
    simp only [opTy, ho] at hty
    have h2 : ∀ {a b : Bool}, both a b = true → a = true ∧ b = true := fun {a b} h => by cases a <;> cases b <;> simp_all [both]
    obtain ⟨g1, g2⟩ := h2 hty
    exact ⟨g1, fun e => by rw [e] at g2; exact g2⟩
  obtain ⟨i, z, d, F⟩ := tyCheck_f (HT.2 t hty')
  simp only [aop, ho] at hk
  obtain ⟨xv, hx, hk⟩ := asAV_rep H hk
  obtain ⟨yv, hy, hk⟩ := asAV_rep H hk
  have aggs : ∀ neg, op = (if neg then .neq else .eql) → (cf.ty t).agg = true → (eqA (cf.ty t).eq neg xv yv fun v => putK fz env o.dst (.av v) fun env => k env loc h) → Oper.wp P o a w (Next b fz env loc k) Q := by
    intro neg hop ha hk
    obtain ⟨g1, g2⟩ := F.eqf ha (hagg ha)
    unfold eqA at hk
    split at hk
    · rename_i xs ys
      obtain ⟨l1, l2, hk⟩ := hk
      split at hk
      · rename_i r hr
        generalize hxv : a.eval x = vx at hx
        generalize hyv : a.eval y = vy at hy
        cases hx with
        | agg vs hs h1 hrr =>
          cases hy with
          | agg us hs' h1' hrr' =>
            have hE := eqCells_v (vs := vs.toList) (us := us.toList) hr (by simpa using hs) (by simpa using hs') (fun j hj => by simpa [g, Array.getD_eq_getD_getElem?, List.getD_eq_getElem?_getD] using hrr j hj) (fun j hj => by simpa [g, Array.getD_eq_getD_getElem?, List.getD_eq_getElem?_getD] using hrr' j hj)
            have run := fun w' => run_equalIn_agg_v F ha (hagg ha) (vs := vs) (us := us) (by omega) (by omega) hE 9998 w'
            refine wp_same H (run_bin_op (v := .bool (if neg then !r else r)) ho (fun w'' => ?_) ?_) (y := .av _) (.val rfl) av_lkey hk
            · rw [hxv, hyv]; exact run_eqGuard_agg w'' op t x y vs us g2
            · rw [hxv, hyv, hop]
              cases neg with
              | true => simp only [if_true]; rw [run_neq_struct, run w]; rfl
              | false => simp only [Bool.false_eq_true, if_false]; rw [run_eql_struct, run w]; rfl
      · exact hk.elim
    · exact hk.elim
  have plainly : (binA op xv yv fun v => putK fz env o.dst (.av v) fun env => k env loc h) → Oper.wp P o a w (Next b fz env loc k) Q := by
    intro hk
    obtain ⟨v, h1, hk⟩ := binA_elim hk
    obtain ⟨u', rfl, h2, h3, h4⟩ := run_abin h1 hx hy t w
    exact wp_same H (run_bin_op ho (h4 _ _) h3) (y := .av _) (.val h2) av_lkey hk
  have bools : ∀ neg, op = (if neg then .neq else .eql) → (cf.ty t).kd = .bool → (eqbA neg xv yv fun v => putK fz env o.dst (.av v) fun env => k env loc h) → Oper.wp P o a w (Next b fz env loc k) Q := by
    intro neg hop hkd hk
    have ht := F.bool hkd
    obtain ⟨m, n, rfl, rfl, hk⟩ := eqbA_elim hk
    · have hx' := rep_val hx
      have hy' := rep_val hy
      refine wp_same H (run_bin_op (v := .bool (if neg then !(m == n) else m == n)) ho (fun w'' => ?_) ?_) (y := .av _) (.val rfl) av_lkey hk
      · rw [hx', hy', hop]; unfold eqGuard; cases neg <;> rfl
      · rw [hx', hy', hop]
        have := run_equal_bool ht m n w 9999
        cases neg with
        | true =>
          show ((do pure (.bool (!(← Op.equal t _ _)))) : Sem Value).run P w = _
          simp only [Sem.run_bind]
          rw [show Op.equal t (.bool m) (.bool n) = Op.equalIn (9999 + 1) t (.bool m) (.bool n) from rfl, this]
          rfl
        | false =>
          show ((do pure (.bool (← Op.equal t _ _))) : Sem Value).run P w = _
          simp only [Sem.run_bind]
          rw [show Op.equal t (.bool m) (.bool n) = Op.equalIn (9999 + 1) t (.bool m) (.bool n) from rfl, this]
          rfl
  split at hk
  · exact aggs false rfl (by assumption) hk
  · exact aggs true rfl (by assumption) hk
  · exact (show False from hk).elim
  · split at hk
    · exact bools false rfl (by assumption) hk
    · exact bools true rfl (by assumption) hk
    · exact (show False from hk).elim
    · exact plainly hk
theorem op_not (H : SR b env loc h a w C β) {t : TypeId} {x : Operand} (ho : o.op = .unOp .not t x) (hk : aop P cf fz o env loc h k) : Oper.wp P o a w (Next b fz env loc k) Q := by
  simp only [aop, ho] at hk
  obtain ⟨xv, hx, hk⟩ := asAV_rep H hk
  obtain ⟨m, rfl, hk⟩ := notA_elim hk
  have hx' := rep_val hx
  refine wp_same H (v := .bool (!m)) ?_ (y := .av _) (.val rfl) av_lkey hk
  simp [execOp, ho, hx', Op.unary]
theorem op_extract (H : SR b env loc h a w C β) {x : Operand} {i : Nat} (ho : o.op = .extract x i) (hk : aop P cf fz o env loc h k) : Oper.wp P o a w (Next b fz env loc k) Q := by
  simp only [aop, ho] at hk
  obtain ⟨xv, hx, hk⟩ := asAV_rep H hk
  obtain ⟨vs, rfl, h1, hk⟩ := tupA_elim hk
  · generalize hv : a.eval x = va at hx
    cases hx with
    | tup us hs hr =>
      refine wp_same H (v := us.getD i undef) ?_ (y := .av _) (hr i h1) av_lkey hk
      have : i < us.size := by omega
      simp [execOp, ho, hv, Instr.extract, this, Array.getD_eq_getD_getElem?]
theorem lenA_elim {x : AV} {k : AV → Prop} (hk : lenA x k) : (∃ sz els, x = .rs sz els ∧ k (I els.length)) ∨ (∃ id len, x = .os id len ∧ k (I len)) ∨ (x = .e0 ∧ k (I 0)) := by
  unfold lenA at hk
  split at hk
  · exact .inl ⟨_, _, rfl, hk⟩
  · exact .inr (.inl ⟨_, _, rfl, hk⟩)
  · exact .inr (.inr ⟨rfl, hk⟩)
  · cases hk
theorem lenS_elim {x : AV} {k : AV → Prop} (hk : lenS x k) : ∃ s, x = .val (.string s) ∧ k (I s.size) := by
  unfold lenS at hk
  split at hk
  · exact ⟨_, rfl, hk⟩
  · cases hk
theorem lenM_elim {x : AV} {k : AV → Prop} (hk : lenM x h k) : ∃ id es, x = .mp id ∧ h id = some (.map es) ∧ k (I es.length) := by
  unfold lenM at hk
  split at hk
  · split at hk
    · exact ⟨_, _, rfl, ‹_›, hk⟩
    · cases hk
  · cases hk
end
end Am
