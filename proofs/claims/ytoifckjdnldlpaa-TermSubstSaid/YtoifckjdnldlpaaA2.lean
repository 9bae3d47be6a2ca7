/- The abstract machine: what each operation asks, and what it leaves, told of abstract values. -/
import Derived.Test.YtoifckjdnldlpaaA1
set_option linter.unusedVariables false
set_option linter.unusedSimpArgs false
namespace Am
noncomputable section
open Go

abbrev I (n : Int) : AV := .val (.int .i64 n)
abbrev B (b : Bool) : AV := .val (.bool b)
abbrev S (s : ByteArray) : AV := .val (.string s)
/-- Cell j of a list of cells. -/
def g (cs : List AV) (j : Nat) : AV := cs.getD j .any
def gets (cs : List AV) : Nat → Nat → List AV
  | _, 0 => []
  | j, n + 1 => g cs j :: gets cs (j + 1) n

/-- What a type is, beyond its cells. -/
inductive TK where
  | other
  | bool
  | str
  | int (k : IntKind)
  | map (k e : Nat)
  deriving DecidableEq, Inhabited
structure TyI where
  agg : Bool
  sz : Nat
  zero : List AV
  flds : List (Nat × Nat)
  elem : Nat
  bytes : Nat
  kd : TK
  arr : Bool
  eq : List TK
  deriving Inhabited

/-! ### What an operation asks -/
def brA (c : AV) (A B : Prop) : Prop := match c with
  | .val (.bool b) => (b = true → A) ∧ (b = false → B)
  | _ => False
def nilA (x : AV) (k : Prop) : Prop := match x with
  | .ro _ | .op _ _ _ | .fn _ _ => k
  | _ => False
def loadV (p : AV) (h : Heap) (k : AV → Prop) : Prop := match p with
  | .ro cs => 0 < cs.length ∧ k (g cs 0)
  | .op id ix off => match h id with
    | some (.arr z els) => ix < els.length ∧ off < z ∧ k (g (els.getD ix []) off)
    | _ => False
  | _ => False
def loadG (sz : Nat) (p : AV) (h : Heap) (k : List AV → Prop) : Prop := match p with
  | .ro cs => sz ≤ cs.length ∧ k cs
  | .op id ix off => match h id with
    | some (.arr z els) => ix < els.length ∧ off + sz ≤ z ∧ k ((els.getD ix []).drop off)
    | _ => False
  | _ => False
def aggA (sz : Nat) (v : AV) (k : List AV → Prop) : Prop := match v with
  | .agg cs => cs.length = sz ∧ k cs
  | _ => False
/-- A value of one cell. -/
def oneA (x : AV) (k : Prop) : Prop := match x with
  | .agg _ | .tup _ | .any => False
  | _ => k
def splice (cs : List AV) (off : Nat) : List AV → List AV
  | [] => cs
  | x :: xs => splice (cs.set off x) (off + 1) xs
def storeG (p : AV) (cs : List AV) (h : Heap) (k : Heap → Prop) : Prop := match p with
  | .op id ix off => match h id with
    | some (.arr z els) => ix < els.length ∧ off + cs.length ≤ z ∧ k (h.set id (.arr z (els.set ix (splice (els.getD ix []) off cs))))
    | _ => False
  | _ => False
def fldA (off : Nat) (p : AV) (k : AV → Prop) : Prop := match p with
  | .ro cs => k (.ro (cs.drop off))
  | .op id ix o => k (.op id ix (o + off))
  | _ => False
def idxA (es : Nat) (x i : AV) (h : Heap) (k : AV → Prop) : Prop := match i with
  | .val (.int _ n) => match x with
    | .rs sz els => sz = es ∧ 0 ≤ n ∧ n < els.length ∧ k (.ro (els.getD n.toNat []))
    | .os id len => match h id with
      | some (.arr z els) => z = es ∧ 0 ≤ n ∧ n < len ∧ len ≤ els.length ∧ k (.op id n.toNat 0)
      | _ => False
    | _ => False
  | _ => False
def lenA (x : AV) (k : AV → Prop) : Prop := match x with
  | .rs _ els => k (I els.length)
  | .os _ len => k (I len)
  | .e0 => k (I 0)
  | _ => False
def lenS (x : AV) (k : AV → Prop) : Prop := match x with
  | .val (.string s) => k (I s.size)
  | _ => False
def lenM (x : AV) (h : Heap) (k : AV → Prop) : Prop := match x with
  | .mp id => match h id with
    | some (.map es) => k (I es.length)
    | _ => False
  | _ => False
def intBin (op : BinOp) (k : IntKind) (a b : Int) : Option AV := match op with
  | .add => some (.val (.int k (k.wrap (a + b))))
  | .sub => some (.val (.int k (k.wrap (a - b))))
  | .mul => some (.val (.int k (k.wrap (a * b))))
  | .rem => if b = 0 then none else some (.val (.int k (a.tmod b)))
  | .quo => if b = 0 then none else some (.val (.int k (k.wrap (a.tdiv b))))
  | .eql => some (B (a == b))
  | .neq => some (B (a != b))
  | .lss => some (B (decide (a < b)))
  | .leq => some (B (decide (a ≤ b)))
  | .gtr => some (B (decide (a > b)))
  | .geq => some (B (decide (a ≥ b)))
  | .xor => some (.val (.int k (k.wrap (BitVec.ofInt k.bits a ^^^ BitVec.ofInt k.bits b).toNat)))
  | _ => none
def strBin (op : BinOp) (a b : ByteArray) : Option AV := match op with
  | .add => if a.size + b.size ≤ 140737488355328 then some (S (a ++ b)) else none
  | .eql => some (B (a.toList == b.toList))
  | .neq => some (B (!(a.toList == b.toList)))
  | _ => none
/-- '==' of two cells of plain values of a kind. -/
def eqCell : TK → AV → AV → Option Bool
  | .int _, .val (.int k a), .val (.int k' b) => if k = k' then some (a == b) else none
  | .bool, .val (.bool a), .val (.bool b) => some (a == b)
  | .str, .val (.string a), .val (.string b) => some (a.toList == b.toList)
  | _, _, _ => none
def eqCells : List TK → List AV → List AV → Option Bool
  | [], [], [] => some true
  | t :: ts, x :: xs, y :: ys => match eqCell t x y with
    | some true => eqCells ts xs ys
    | some false => some false
    | none => none
  | _, _, _ => none
/-- '==' of two keys. -/
def eqKey (ks : List TK) (x y : AV) : Option Bool := match x, y with
  | .agg xs, .agg ys => if xs.length = ks.length ∧ ys.length = ks.length then eqCells ks xs ys else none
  | x, y => match ks with
    | [t] => eqCell t x y
    | _ => none
def findA (ks : List TK) (key : AV) : List (AV × AV) → Nat → Option (Option Nat)
  | [], _ => some none
  | (k, _) :: r, i => match eqKey ks key k with
    | some true => some (some i)
    | some false => findA ks key r (i + 1)
    | none => none
def eval2 (es : List (AV × AV)) (i : Nat) : AV := (es.getD i (.any, .any)).2
def ekey (es : List (AV × AV)) (i : Nat) : AV := (es.getD i (.any, .any)).1
/-- A map's key is looked up. -/
def mapA (ks : List TK) (m key : AV) (h : Heap) (k : Nat → List (AV × AV) → Option Nat → Prop) : Prop := match m with
  | .mp id => match h id with
    | some (.map es) => match findA ks key es 0 with
      | some r => k id es r
      | none => False
    | _ => False
  | _ => False
def newM (h : Heap) (k : AV → Heap → Prop) : Prop := ∀ id, h id = none → k (.mp id) (h.set id (.map []))
def lookA (ks : List TK) (ok : Bool) (zero m key : AV) (h : Heap) (k : AV → Prop) : Prop := mapA ks m key h fun _ es r => match r with
  | some i => k (if ok then .tup [eval2 es i, B true] else eval2 es i)
  | none => k (if ok then .tup [zero, B false] else zero)
def updA (ks : List TK) (m key v : AV) (h : Heap) (k : Heap → Prop) : Prop := mapA ks m key h fun id es r => match r with
  | some i => k (h.set id (.map (es.set i (key, v))))
  | none => k (h.set id (.map (es ++ [(key, v)])))
/-- An entry to be stored to: its value (zero, if it is new), and where it is. -/
def entA (ks : List TK) (zero m key : AV) (h : Heap) (k : AV → Heap → Prop) : Prop := mapA ks m key h fun id es r => match r with
  | some i => k (.tup [eval2 es i, I i]) (h.set id (.map (es.set i (key, eval2 es i))))
  | none => k (.tup [zero, I es.length]) (h.set id (.map (es ++ [(key, zero)])))
def entS (m i v : AV) (h : Heap) (k : Heap → Prop) : Prop := match m, i with
  | .mp id, .val (.int _ n) => match h id with
    | some (.map es) => 0 ≤ n ∧ n < es.length ∧ k (h.set id (.map (es.set n.toNat (ekey es n.toNat, v))))
    | _ => False
  | _, _ => False
/-- A map is ranged over. -/
def rangeA (m : AV) (h : Heap) (k : AV → Heap → Prop) : Prop := match m with
  | .mp id => match h id with
    | some (.map es) => ∀ it, h it = none → k (.op it 0 0) (h.set it (.iter id es.length (List.range es.length) none))
    | _ => False
  | _ => False
def iterA (it : AV) (h : Heap) (k : Nat → Nat → Nat → List (AV × AV) → List Nat → Option Nat → Prop) : Prop := match it with
  | .op it 0 0 => match h it with
    | some (.iter id n left cur) => match h id with
      | some (.map es) => es.length = n ∧ k it id n es left cur
      | _ => False
    | _ => False
  | _ => False
def nextA (it : AV) (h : Heap) (k : AV → Heap → Prop) : Prop := iterA it h fun it id n es left _ =>
  (left = [] → k (.tup [B false]) h) ∧ ∀ i, i ∈ left → k (.tup [B true, ekey es i, eval2 es i]) (h.set it (.iter id n (left.erase i) (some i)))
def entryA (it : AV) (h : Heap) (k : AV → Prop) : Prop := iterA it h fun _ _ _ es _ cur => match cur with
  | some i => k (.tup [ekey es i, eval2 es i])
  | none => False
def abin (op : BinOp) (x y : AV) : Option AV := match x, y with
  | .val (.int k a), .val (.int k' b) => if k = k' then intBin op k a b else none
  | .val (.string a), .val (.string b) => strBin op a b
  | _, _ => none
/-- '==' and '!=' of bools. -/
def eqbA (neg : Bool) (x y : AV) (k : AV → Prop) : Prop := match x, y with
  | .val (.bool a), .val (.bool b) => k (B (if neg then !(a == b) else a == b))
  | _, _ => False
def binA (op : BinOp) (x y : AV) (k : AV → Prop) : Prop := match abin op x y with
  | some v => k v
  | none => False
/-- '==' and '!=' of structs of plain values, all of whose fields count. -/
def eqA (ks : List TK) (neg : Bool) (x y : AV) (k : AV → Prop) : Prop := match x, y with
  | .agg xs, .agg ys => xs.length = ks.length ∧ ys.length = ks.length ∧ match eqCells ks xs ys with
    | some b => k (B (if neg then !b else b))
    | none => False
  | _, _ => False
def notA (x : AV) (k : AV → Prop) : Prop := match x with
  | .val (.bool b) => k (B (!b))
  | _ => False
def maxA (x y : AV) (k : AV → Prop) : Prop := match x, y with
  | .val (.int .i64 a), .val (.int .i64 b) => k (I (if b > a then b else a))
  | _, _ => False
def minA (x y : AV) (k : AV → Prop) : Prop := match x, y with
  | .val (.int .i64 a), .val (.int .i64 b) => k (I (if b < a then b else a))
  | _, _ => False
def tupA (x : AV) (i : Nat) (k : AV → Prop) : Prop := match x with
  | .tup vs => i < vs.length ∧ k (vs.getD i .any)
  | _ => False
/-- The elements that a slice shows. -/
def srcA (sz : Nat) (y : AV) (h : Heap) (k : List (List AV) → Prop) : Prop := match y with
  | .rs z els => z = sz ∧ k els
  | .os id len => match h id with
    | some (.arr z els) => z = sz ∧ len ≤ els.length ∧ k (els.take len)
    | _ => False
  | .e0 => k []
  | _ => False
def appA (sz bytes : Nat) (x y : AV) (h : Heap) (k : AV → Heap → Prop) : Prop := srcA sz y h fun ys => match x with
  | .e0 => ys.length * bytes ≤ 140737488355328 ∧ (ys = [] → k .e0 h) ∧ (ys ≠ [] → ∀ id, h id = none → k (.os id ys.length) (h.set id (.arr sz ys)))
  | .os id len => match h id with
    | some (.arr z els) => z = sz ∧ len ≤ els.length ∧ (len + ys.length) * bytes ≤ 140737488355328 ∧
        ∀ id', (h.del id) id' = none → k (.os id' (len + ys.length)) ((h.del id).set id' (.arr sz (els.take len ++ ys)))
    | _ => False
  | _ => False
def mkA (sz bytes : Nat) (zero : List AV) (n c : AV) (h : Heap) (k : AV → Heap → Prop) : Prop := match n, c with
  | .val (.int .i64 n), .val (.int .i64 c) => n = c ∧ 0 ≤ n ∧ n * bytes ≤ 140737488355328 ∧ ∀ id, h id = none → k (.os id n.toNat) (h.set id (.arr sz (List.replicate n.toNat zero)))
  | _, _ => False
def newA (sz : Nat) (cells : List AV) (h : Heap) (k : AV → Heap → Prop) : Prop := ∀ id, h id = none → k (.op id 0 0) (h.set id (.arr sz [cells]))
/-- x[lo:hi]; 'none': a bound that the text leaves out; es: an element's cells. -/
def sliceA (es : Nat) (x : AV) (lo hi : Option AV) (k : AV → Prop) : Prop := match x with
  | .rs sz els => sz = es ∧ 0 < es ∧ match lo, hi with
    | none, some (.val (.int _ b)) => 0 ≤ b ∧ b ≤ els.length ∧ k (.rs sz (els.take b.toNat))
    | some (.val (.int _ a)), none => 0 ≤ a ∧ a ≤ els.length ∧ k (.rs sz (els.drop a.toNat))
    | some (.val (.int _ a)), some (.val (.int _ b)) => 0 ≤ a ∧ a ≤ b ∧ b ≤ els.length ∧ k (.rs sz ((els.take b.toNat).drop a.toNat))
    | _, _ => False
  | .os id len => 0 < es ∧ match lo, hi with
    | none, some (.val (.int _ b)) => 0 ≤ b ∧ b ≤ len ∧ k (.os id b.toNat)
    | _, _ => False
  | .e0 => match lo, hi with
    | none, some (.val (.int _ b)) => 0 < es ∧ b = 0 ∧ k .e0
    | some (.val (.int _ a)), none => 0 < es ∧ a = 0 ∧ k .e0
    | _, _ => False
  | .val (.string s) => es = 0 ∧ match lo, hi with
    | none, some (.val (.int _ b)) => 0 ≤ b ∧ b ≤ s.size ∧ k (S (s.extract 0 b.toNat))
    | some (.val (.int _ a)), none => 0 ≤ a ∧ a ≤ s.size ∧ k (S (s.extract a.toNat s.size))
    | some (.val (.int _ a)), some (.val (.int _ b)) => 0 ≤ a ∧ a ≤ b ∧ b ≤ s.size ∧ k (S (s.extract a.toNat b.toNat))
    | _, _ => False
  | _ => False
/-- x[:hi:mx] -/
def sl3A (es : Nat) (x hi mx : AV) (k : AV → Prop) : Prop := match x, hi, mx with
  | .rs sz els, .val (.int _ b), .val (.int _ c) => sz = es ∧ 0 < es ∧ 0 ≤ b ∧ b ≤ c ∧ c ≤ els.length ∧ k (.rs sz (els.take b.toNat))
  | _, _, _ => False
def strA (x i : AV) (k : AV → Prop) : Prop := match x, i with
  | .val (.string s), .val (.int _ n) => 0 ≤ n ∧ n < s.size ∧ k (.val (.int .u8 ((s.data.toList.getD n.toNat 0).toNat)))
  | _, _ => False
/-- What no one can turn. -/
def fixA (x : AV) (k : Prop) : Prop := match x with
  | .ro _ | .rs _ _ | .val _ | .e0 => k
  | _ => False
def convA (kd : IntKind) (x : AV) (k : AV → Prop) : Prop := match x with
  | .val (.int _ n) => k (.val (.int kd (kd.wrap n)))
  | _ => False

/-! ### Weakening: what is own becomes immutable, or is forgotten -/
inductive Ref (h h' : Heap) : AV → AV → Prop
  | refl {x} : Ref h h' x x
  | any {x} : Ref h h' x .any
  | e0 {sz} : Ref h h' .e0 (.rs sz [])
  | rs {sz els els'} (hl : els'.length = els.length) (hz : ∀ i, i < els.length → (els'.getD i []).length = sz) (hr : ∀ i j, i < els.length → j < sz → Ref h h' (g (els.getD i []) j) (g (els'.getD i []) j)) : Ref h h' (.rs sz els) (.rs sz els')
  | agg {cs cs'} (hl : cs'.length = cs.length) (hr : ∀ j, j < cs.length → Ref h h' (g cs j) (g cs' j)) : Ref h h' (.agg cs) (.agg cs')
  | tup {cs cs'} (hl : cs'.length = cs.length) (hr : ∀ j, j < cs.length → Ref h h' (g cs j) (g cs' j)) : Ref h h' (.tup cs) (.tup cs')
  | frz {id sz els len els'} (hh : h id = some (.arr sz els)) (hn : h' id = none) (hle : len ≤ els.length) (hl : els'.length = len) (hz : ∀ i, i < len → (els'.getD i []).length = sz)
      (hr : ∀ i j, i < len → j < sz → Ref h h' (g (els.getD i []) j) (g (els'.getD i []) j)) : Ref h h' (.os id len) (.rs sz els')
  | fro {id sz els ix off cs} (hh : h id = some (.arr sz els)) (hn : h' id = none) (hi : ix < els.length) (hl : off + cs.length ≤ sz)
      (hr : ∀ j, j < cs.length → Ref h h' (g (els.getD ix []) (off + j)) (g cs j)) : Ref h h' (.op id ix off) (.ro cs)
inductive NRef (h h' : Heap) : Node → Node → Prop
  | refl {n} : NRef h h' n n
  | arr {sz els els'} (hl : els'.length = els.length) (hz : ∀ i, i < els.length → (els'.getD i []).length = sz) (hr : ∀ i j, i < els.length → j < sz → Ref h h' (g (els.getD i []) j) (g (els'.getD i []) j)) : NRef h h' (.arr sz els) (.arr sz els')
def HRef (h h' : Heap) : Prop := ∀ id n', h' id = some n' → ∃ n, h id = some n ∧ NRef h h' n n'
/-- A list of values and a heap, weakened. -/
def Wk (σ : List AV) (h : Heap) (K : List AV → Heap → Prop) : Prop :=
  ∃ σ' h', HRef h h' ∧ σ'.length = σ.length ∧ (∀ j, j < σ.length → Ref h h' (g σ j) (g σ' j)) ∧ K σ' h'

/-! ### Calls -/
def ACalls (P : Program) (f : FuncId) (args : List AV) (h : Heap) (Q : AV → Heap → Prop) : Prop :=
  (∃ fn c, P.funcs[f]? = some fn ∧ fn.body = some c ∧ (fn.name == "runtime.NumGoroutine") = false) ∧
  ∀ (w : World) (C : Cx) (vs : Array Value), MRel w C h → vs.size = args.length → (∀ j, j < args.length → Rep w C (g args j) (vs.getD j undef)) →
    Calls P f vs w fun e w' => ∃ v C' h' r, e = .returned v ∧ Ev w C h w' C' h' ∧ Rep w' C' r v ∧ Q r h'
def callS (P : Program) (f : FuncId) (args : List AV) (h : Heap) (k : AV → Heap → Prop) : Prop := Wk args h fun args' h' => ACalls P f args' h' k
def callV (P : Program) (f : AV) (args : List AV) (h : Heap) (k : AV → Heap → Prop) : Prop := match f with
  | .fn f caps => callS P f (args ++ caps) h k
  | _ => False
/-- A loop: what holds at each round's head, and a number that falls. -/
def loopS (body : List AV → Heap → (List AV → Heap → Prop) → Prop) (σ : List AV) (h : Heap) : Prop :=
  ∃ I : Nat → List AV → Heap → Prop, Wk σ h (fun σ h => ∃ n, I n σ h) ∧
    ∀ n σ' h, I n σ' h → σ'.length = σ.length → body σ' h fun σ' h' => Wk σ' h' fun σ' h' => ∃ m, m < n ∧ I m σ' h'

def retA (v : AV) (h : Heap) (Q : AV → Heap → Prop) : Prop := Wk [v] h fun r h => Q (g r 0) h

/-! ### The machine's state: temporaries, variables of this call, own heap -/
inductive TV where
  | av (v : AV)
  | ag (cs : List AV)
  | bl (b : Bool)
  | loc (t off : Nat)
  | und
  | dead
/-! Names whose unfolding the kernel prefers to that of the words above: each stands for what its line says, and is told by a long way. -/
def H0 : Prop := False
def H1 : Prop := H0
def H2 : Prop := H1
def H3 : Prop := H2
def H4 : Prop := H3
def H5 : Prop := H4
def H6 : Prop := H5
def H7 : Prop := H6
def H8 : Prop := H7
def H9 : Prop := H8
def H10 : Prop := H9
def H11 : Prop := H10
def H12 : Prop := H11
def H13 : Prop := H12
def H14 : Prop := H13
def H15 : Prop := H14
def H16 : Prop := H15
def H17 : Prop := H16
def H18 : Prop := H17
def H19 : Prop := H18
def H20 : Prop := H19
def H21 : Prop := H20
def H22 : Prop := H21
def H23 : Prop := H22
def H24 : Prop := H23
def H25 : Prop := H24
def H26 : Prop := H25
def H27 : Prop := H26
def H28 : Prop := H27
def H29 : Prop := H28
def H30 : Prop := H29
def H31 : Prop := H30
def H32 : Prop := H31
def H33 : Prop := H32
def H34 : Prop := H33
def H35 : Prop := H34
def H36 : Prop := H35
def H37 : Prop := H36
def H38 : Prop := H37
def H39 : Prop := H38
def H40 : Prop := H39
def H41 : Prop := H40
def H42 : Prop := H41
def H43 : Prop := H42
def H44 : Prop := H43
def H45 : Prop := H44
def H46 : Prop := H45
def H47 : Prop := H46
def H48 : Prop := H47
def H49 : Prop := H48
def H50 : Prop := H49
def H51 : Prop := H50
def H52 : Prop := H51
def H53 : Prop := H52
def H54 : Prop := H53
def H55 : Prop := H54
def H56 : Prop := H55
def H57 : Prop := H56
def H58 : Prop := H57
def H59 : Prop := H58
def H60 : Prop := H59
def FF : Prop := H60
def DD : TV := (fun (_ : Prop) => TV.dead) FF
def up {α : Sort _} (a : α) : α := (fun (_ : Prop) => a) FF
abbrev Env := List TV
abbrev Loc := List (Nat × List AV)
abbrev K := Env → Loc → Heap → Prop
/-- In a loop: the temporaries that it may write (none: all); the variables that it may not write, and may not lay. -/
structure Fz where
  t : Option (List Nat)
  l : List Nat
  a : List Nat
  d : Bool
  g : List Nat
def nmem (l : List Nat) (y : Nat) : Bool := List.rec false (fun x _ ih => match Nat.beq x y with | true => true | false => ih) l
def may (l : Option (List Nat)) (y : Nat) : Bool := match l with
  | none => true
  | some l => nmem l y
def mays (l : Option (List Nat)) (ys : List Nat) : Bool := List.rec true (fun y _ ih => match may l y with | true => ih | false => false) ys
def setK {α : Type} (l : List α) : Nat → α → (List α → Prop) → Prop :=
  List.rec (fun _ _ k => up (k [])) (fun x xs ih n v k => Nat.rec (k (v :: xs)) (fun m _ => ih m v fun ys => k (x :: ys)) n) l
def takeK {α : Type} : List α → Nat → (List α → Prop) → Prop
  | _, 0, k => k []
  | x :: xs, n + 1, k => takeK xs n fun ys => k (x :: ys)
  | [], _ + 1, _ => FF
def exactK {α : Type} : List α → Nat → (List α → Prop) → Prop
  | [], 0, k => up (k [])
  | x :: xs, n + 1, k => exactK xs n fun ys => k (x :: ys)
  | _, _, _ => FF
def lkp (l : List (Nat × List AV)) (u : Nat) : Option (List AV) := List.rec (up none) (fun x _ ih => match Nat.beq x.1 u with | true => some x.2 | false => ih) l
def nth (l : List TV) : Nat → TV := List.rec (fun _ => DD) (fun x _ ih n => Nat.rec x (fun m _ => ih m) n) l
/-- The contents of variable u (there already, or new) are cs. -/
def lsetK : List (Nat × List AV) → Nat → List AV → (List (Nat × List AV) → Prop) → Prop
  | [], u, cs, k => up (k [(u, cs)])
  | (t, ds) :: r, u, cs, k => match Nat.beq t u with
    | true => k ((t, cs) :: r)
    | false => lsetK r u cs fun r' => k ((t, ds) :: r')
def spliceK : List AV → Nat → List AV → (List AV → Prop) → Prop
  | cs, _, [], k => up (k cs)
  | cs, off, x :: xs, k => setK cs off x fun cs => spliceK cs (off + 1) xs k
/-- A variable is laid anew: pointers to the elder one are forgotten. -/
def killK : List TV → Nat → (List TV → Prop) → Prop
  | [], _, k => up (k [])
  | x :: xs, t, k => killK xs t fun ys => match x with
    | .loc u o => match Nat.beq u t with
      | true => k (.dead :: ys)
      | false => k (.loc u o :: ys)
    | .av v => k (.av v :: ys)
    | .ag v => k (.ag v :: ys)
    | .bl v => k (.bl v :: ys)
    | .und => k (.und :: ys)
    | .dead => k (.dead :: ys)
def cAV : Value → TV
  | .bool b => .bl b
  | .slice none 0 0 => .av .e0
  | v => match plain v with
    | true => .av (.val v)
    | false => DD
def ev (env : Env) : Operand → TV
  | .tmp t => nth env t
  | .const v => cAV v
  | .func f => .av (.fn f [])
  | .global _ => DD
def asAV (x : TV) (k : AV → Prop) : Prop := match x with
  | .av v => k v
  | .ag cs => k (.agg cs)
  | .bl b => k (B b)
  | .loc _ _ => FF
  | .und => FF
  | .dead => FF
def asAVs : List TV → (List AV → Prop) → Prop
  | [], k => up (k [])
  | x :: xs, k => asAV x fun v => asAVs xs fun vs => k (v :: vs)
/-- The cells of a value of a type. -/
def cellsK (ti : TyI) (x : TV) (k : List AV → Prop) : Prop := match ti.agg with
  | true => match x with
    | .ag cs => exactK cs ti.sz k
    | .av v => aggA ti.sz v fun cs => k (gets cs 0 ti.sz)
    | _ => FF
  | false => match x with
    | .bl b => k [B b]
    | .av v => oneA v (k [v])
    | _ => FF
def cellsKs (ti : TyI) : List TV → (List (List AV) → Prop) → Prop
  | [], k => up (k [])
  | x :: xs, k => cellsK ti x fun c => cellsKs ti xs fun cs => k (c :: cs)
def putK (fz : Fz) (env : Env) (dst : Option Tmp) (v : TV) (k : Env → Prop) : Prop := match dst with
  | none => k env
  | some d => match may fz.t d with
    | false => FF
    | true => match nmem fz.g d with
      | false => setK env d v k
      | true => match v with
        | .av c => brA c (setK env d (.bl true) k) (setK env d (.bl false) k)
        | _ => setK env d v k
/-- A new variable of this call. -/
def varK (fz : Fz) (env : Env) (loc : Loc) (dst : Option Tmp) (cells : List AV) (k : Env → Loc → Prop) : Prop := match dst with
  | none => FF
  | some d => match may fz.t d with
    | false => FF
    | true => match nmem fz.a d with
      | true => FF
      | false => killK env d fun env => setK env d (.loc d 0) fun env => lsetK loc d cells fun loc => k env loc

def hasLoc (l : List TV) (d : Nat) : Bool := List.rec false (fun x _ ih => match x with
  | .loc u _ => match Nat.beq u d with
    | true => true
    | false => ih
  | _ => ih) l
/-- In a drawn region: a read of what is own only where it stands apart from what may turn it. -/
def drK (fz : Fz) (own : List Nat) (dst : Option Tmp) (p : AV) (k : Prop) : Prop := match fz.d with
  | false => k
  | true => match nmem own (dst.getD 0) with
    | true => k
    | false => fixA p k
/-- In a drawn region: a variable is new. -/
def varC (fz : Fz) (env : Env) (loc : Loc) (dst : Option Tmp) (k : Prop) : Prop := match fz.d with
  | false => k
  | true => match dst with
    | none => FF
    | some d => match lkp loc d with
      | some _ => FF
      | none => match hasLoc env d with
        | true => FF
        | false => k

structure Ann where
  tm : List Nat
  lc : List Nat
  wr : List Nat
structure Cfg where
  T : List TyI
  esc : List Nat
  loops : List (Nat × Ann)
  draws : List (Nat × List Nat)
  own : List Nat
  gds : List Nat
def Cfg.ty (c : Cfg) (t : Nat) : TyI := c.T.getD t default

def optK (e : Operand → TV) : Option Operand → (Option AV → Prop) → Prop
  | none, k => up (k none)
  | some x, k => asAV (e x) fun v => k (some v)
/-- The parts of a struct's literal, laid over its zero value. -/
def buildK (cf : Cfg) (e : Operand → TV) (ti : TyI) : List (Nat × Operand) → List AV → (List AV → Prop) → Prop
  | [], cs, k => up (k cs)
  | (i, x) :: rest, cs, k => cellsK (cf.ty (ti.flds.getD i (0, 0)).2) (e x) fun ds => spliceK cs (ti.flds.getD i (0, 0)).1 ds fun cs => buildK cf e ti rest cs k
/-- What a key's '==' compares; cells as one value. -/
def ksOf (ti : TyI) : List TK := match ti.agg with
  | true => ti.eq
  | false => [ti.kd]
def unc (a : Bool) (cs : List AV) : AV := match a with
  | true => .agg cs
  | false => g cs 0
def aop (P : Program) (cf : Cfg) (fz : Fz) (o : Oper) (env : Env) (loc : Loc) (h : Heap) (k : K) : Prop := match o.op with
  | .move x | .assign x => putK fz env o.dst (ev env x) fun env => k env loc h
  | .pick c a b => match ev env c with
    | .bl true => putK fz env o.dst (ev env a) fun env => k env loc h
    | .bl false => putK fz env o.dst (ev env b) fun env => k env loc h
    | .av c => brA c (putK fz env o.dst (ev env a) fun env => k env loc h) (putK fz env o.dst (ev env b) fun env => k env loc h)
    | _ => FF
  | .box t x => cellsK (cf.ty t) (ev env x) fun cs => match nmem cf.esc (o.dst.getD 0) with
    | true => newA (cf.ty t).sz cs h fun p h => putK fz env o.dst (.av p) fun env => k env loc h
    | false => varC fz env loc o.dst (varK fz env loc o.dst cs fun env loc => k env loc h)
  | .alloc t => match nmem cf.esc (o.dst.getD 0) with
    | true => newA (cf.ty t).sz (cf.ty t).zero h fun p h => putK fz env o.dst (.av p) fun env => k env loc h
    | false => varC fz env loc o.dst (varK fz env loc o.dst (cf.ty t).zero fun env loc => k env loc h)
  | .load t x => match ev env x with
    | .loc v off => match lkp loc v with
      | some cs => match (cf.ty t).agg with
        | true => takeK (cs.drop off) (cf.ty t).sz fun cs => putK fz env o.dst (.ag cs) fun env => k env loc h
        | false => takeK (cs.drop off) 1 fun cs => putK fz env o.dst (.av (g cs 0)) fun env => k env loc h
      | none => FF
    | .av p => drK fz cf.own o.dst p (match (cf.ty t).agg with
      | true => loadG (cf.ty t).sz p h fun cs => putK fz env o.dst (.ag (gets cs 0 (cf.ty t).sz)) fun env => k env loc h
      | false => loadV p h fun v => putK fz env o.dst (.av v) fun env => k env loc h)
    | _ => FF
  | .store t x v => cellsK (cf.ty t) (ev env v) fun cs => match ev env x with
    | .loc u off => match nmem fz.l u with
      | true => FF
      | false => match lkp loc u with
        | some ds => takeK (ds.drop off) (cf.ty t).sz fun _ => spliceK ds off cs fun ds => lsetK loc u ds fun loc => putK fz env o.dst .dead fun env => k env loc h
        | none => FF
    | .av p => storeG p cs h fun h => putK fz env o.dst .dead fun env => k env loc h
    | _ => FF
  | .nilCheck x => match ev env x with
    | .loc t off => putK fz env o.dst (.loc t off) fun env => k env loc h
    | .av v => nilA v (putK fz env o.dst (.av v) fun env => k env loc h)
    | _ => FF
  | .fieldAddr t x f => match ev env x with
    | .loc u off => putK fz env o.dst (.loc u (off + ((cf.ty t).flds.getD f (0, 0)).1)) fun env => k env loc h
    | .av p => fldA ((cf.ty t).flds.getD f (0, 0)).1 p fun p => putK fz env o.dst (.av p) fun env => k env loc h
    | _ => FF
  | .indexAddr t x i => asAV (ev env x) fun x => asAV (ev env i) fun i => drK fz cf.own o.dst x (idxA (cf.ty (cf.ty t).elem).sz x i h fun p => putK fz env o.dst (.av p) fun env => k env loc h)
  | .index _ x i => asAV (ev env x) fun x => asAV (ev env i) fun i => strA x i fun v => putK fz env o.dst (.av v) fun env => k env loc h
  | .binOp op t x y _ => asAV (ev env x) fun x => asAV (ev env y) fun y => match (cf.ty t).agg, op with
    | true, .eql => eqA (cf.ty t).eq false x y fun v => putK fz env o.dst (.av v) fun env => k env loc h
    | true, .neq => eqA (cf.ty t).eq true x y fun v => putK fz env o.dst (.av v) fun env => k env loc h
    | true, _ => FF
    | false, op => match (cf.ty t).kd, op with
      | .bool, .eql => eqbA false x y fun v => putK fz env o.dst (.av v) fun env => k env loc h
      | .bool, .neq => eqbA true x y fun v => putK fz env o.dst (.av v) fun env => k env loc h
      | .bool, _ => FF
      | _, op => binA op x y fun v => putK fz env o.dst (.av v) fun env => k env loc h
  | .unOp .not _ x => asAV (ev env x) fun x => notA x fun v => putK fz env o.dst (.av v) fun env => k env loc h
  | .extract x i => asAV (ev env x) fun x => tupA x i fun v => putK fz env o.dst (.av v) fun env => k env loc h
  | .build t parts => buildK cf (ev env) (cf.ty t) parts.toList (cf.ty t).zero fun cs => takeK cs (cf.ty t).sz fun cs => putK fz env o.dst (.ag cs) fun env => k env loc h
  | .buildSlice t n parts => match Nat.beq n parts.size with
    | true => match n with
      | 0 => putK fz env o.dst (.av .e0) fun env => k env loc h
      | _ => cellsKs (cf.ty (cf.ty t).elem) (parts.toList.map fun p => ev env p.2) fun els => putK fz env o.dst (.av (.rs (cf.ty (cf.ty t).elem).sz els)) fun env => k env loc h
    | false => FF
  | .makeSlice t n c => asAV (ev env n) fun n => asAV (ev env c) fun c => mkA (cf.ty (cf.ty t).elem).sz (cf.ty (cf.ty t).elem).bytes (cf.ty (cf.ty t).elem).zero n c h fun v h => putK fz env o.dst (.av v) fun env => k env loc h
  | .slice t x lo hi mx => match mx with
    | none => asAV (ev env x) fun x => optK (ev env) lo fun lo => optK (ev env) hi fun hi => sliceA (cf.ty (cf.ty t).elem).sz x lo hi fun v => putK fz env o.dst (.av v) fun env => k env loc h
    | some mx => match lo, hi with
      | none, some hi => asAV (ev env x) fun x => asAV (ev env hi) fun hi => asAV (ev env mx) fun mx => sl3A (cf.ty (cf.ty t).elem).sz x hi mx fun v => putK fz env o.dst (.av v) fun env => k env loc h
      | _, _ => FF
  | .convert _ t x => match (cf.ty t).kd with
    | .int kd => asAV (ev env x) fun x => convA kd x fun v => putK fz env o.dst (.av v) fun env => k env loc h
    | _ => FF
  | .makeMap _ r => match r with
    | none => newM h fun v h => putK fz env o.dst (.av v) fun env => k env loc h
    | some _ => FF
  | .lookup t m x ok => match (cf.ty t).kd with
    | .map kt et => asAV (ev env m) fun m => cellsK (cf.ty kt) (ev env x) fun cs => lookA (ksOf (cf.ty kt)) ok (unc (cf.ty et).agg (cf.ty et).zero) m (unc (cf.ty kt).agg cs) h fun v => putK fz env o.dst (.av v) fun env => k env loc h
    | _ => FF
  | .mapUpdate t m x v => match (cf.ty t).kd with
    | .map kt et => asAV (ev env m) fun m => cellsK (cf.ty kt) (ev env x) fun cs => cellsK (cf.ty et) (ev env v) fun vs => updA (ksOf (cf.ty kt)) m (unc (cf.ty kt).agg cs) (unc (cf.ty et).agg vs) h fun h => putK fz env o.dst .dead fun env => k env loc h
    | _ => FF
  | .mapEntry t m x => match (cf.ty t).kd with
    | .map kt et => asAV (ev env m) fun m => cellsK (cf.ty kt) (ev env x) fun cs => entA (ksOf (cf.ty kt)) (unc (cf.ty et).agg (cf.ty et).zero) m (unc (cf.ty kt).agg cs) h fun v h => putK fz env o.dst (.av v) fun env => k env loc h
    | _ => FF
  | .entryStore t m i v => match (cf.ty t).kd with
    | .map kt et => asAV (ev env m) fun m => asAV (ev env i) fun i => cellsK (cf.ty et) (ev env v) fun vs => entS m i (unc (cf.ty et).agg vs) h fun h => putK fz env o.dst .dead fun env => k env loc h
    | _ => FF
  | .range t m => match (cf.ty t).kd with
    | .map _ _ => asAV (ev env m) fun m => rangeA m h fun v h => putK fz env o.dst (.av v) fun env => k env loc h
    | _ => FF
  | .next it str => match str with
    | false => asAV (ev env it) fun it => nextA it h fun v h => putK fz env o.dst (.av v) fun env => k env loc h
    | true => FF
  | .entry it => asAV (ev env it) fun it => entryA it h fun v => putK fz env o.dst (.av v) fun env => k env loc h
  | .makeFunc (.func f) first caps => match first.size with
    | 0 => asAVs (caps.toList.map (ev env)) fun caps => putK fz env o.dst (.av (.fn f caps)) fun env => k env loc h
    | _ => FF
  | .call { callee := .builtin .len, args, argTypes } => match args.toList, argTypes.toList with
    | [x], [t] => match (cf.ty t).kd with
      | .str => asAV (ev env x) fun x => lenS x fun v => putK fz env o.dst (.av v) fun env => k env loc h
      | .map _ _ => asAV (ev env x) fun x => lenM x h fun v => putK fz env o.dst (.av v) fun env => k env loc h
      | .other => asAV (ev env x) fun x => lenA x fun v => putK fz env o.dst (.av v) fun env => k env loc h
      | _ => FF
    | _, _ => FF
  | .call { callee := .builtin .append, args, argTypes } => match args.toList, argTypes.toList with
    | [x, y], [t, u] => match Nat.beq t u with
      | true => asAV (ev env x) fun x => asAV (ev env y) fun y => appA (cf.ty (cf.ty t).elem).sz (cf.ty (cf.ty t).elem).bytes x y h fun v h => putK fz env o.dst (.av v) fun env => k env loc h
      | false => FF
    | _, _ => FF
  | .call { callee := .builtin .max, args, .. } => match args.toList with
    | [x, y] => asAV (ev env x) fun x => asAV (ev env y) fun y => maxA x y fun v => putK fz env o.dst (.av v) fun env => k env loc h
    | _ => FF
  | .call { callee := .builtin .min, args, .. } => match args.toList with
    | [x, y] => asAV (ev env x) fun x => asAV (ev env y) fun y => minA x y fun v => putK fz env o.dst (.av v) fun env => k env loc h
    | _ => FF
  | .call { callee := .value (.func f), args, .. } => asAVs (args.toList.map (ev env)) fun args => callS P f args h fun r h => putK fz env o.dst (.av r) fun env => k env loc h
  | .call { callee := .value (.tmp t), args, .. } => asAV (nth env t) fun f => asAVs (args.toList.map (ev env)) fun args => callV P f args h fun r h => putK fz env o.dst (.av r) fun env => k env loc h
  | _ => FF
/-- A guard, and what is known of it behind. -/
def grdK (fz : Fz) (env : Env) (t : Nat) (want : Bool) (yes no : Env → Prop) : Prop := match nth env t with
  | .bl b => match b, want with
    | true, true | false, false => yes env
    | _, _ => no env
  | .av c => match may fz.t t with
    | false => FF
    | true => match fz.d with
      | false => brA c (setK env t (.bl true) fun env => match want with | true => yes env | false => no env)
        (setK env t (.bl false) fun env => match want with | true => no env | false => yes env)
      | true => FF
  | .und => no env
  | _ => FF
def dstOf (ops : Array Oper) (j : Nat) : Option Tmp := (ops[j]?).bind (·.dst)
def pos : Nat → Bool
  | 0 => false
  | _ + 1 => true
def posAll (cf : Cfg) (ti : TyI) (l : List (Nat × Operand)) : Bool := List.rec true (fun x _ ih => match pos (cf.ty (ti.flds.getD x.1 (0, 0)).2).sz with | true => ih | false => false) l
def denseB (l : List (Nat × Operand)) : Nat → Bool := List.rec (fun _ => true) (fun x _ ih n => match Nat.beq x.1 n with | true => ih (n + 1) | false => false) l
def both (a b : Bool) : Bool := match a with | true => b | false => false
def someB {α : Type} : List α → Bool
  | [] => false
  | _ :: _ => true
def basicK : TK → Bool
  | .bool | .str | .int _ => true
  | _ => false
def keyTy (ti : TyI) : Bool := both (pos ti.sz) (match ti.agg with
  | true => someB ti.eq
  | false => basicK ti.kd)
def mapTy (cf : Cfg) (t : TypeId) : Bool := both (pos (cf.ty t).sz) (match (cf.ty t).kd with
  | .map kt et => both (keyTy (cf.ty kt)) (pos (cf.ty et).sz)
  | _ => false)
/-- The types that an operation names are in the table. -/
def opTy (cf : Cfg) (o : Oper) : Bool := match o.op with
  | .load t _ | .store t _ _ | .box t _ | .alloc t => pos (cf.ty t).sz
  | .binOp _ t _ _ _ => both (pos (cf.ty t).sz) (match (cf.ty t).agg with
    | true => someB (cf.ty t).eq
    | false => true)
  | .slice t _ _ _ _ => match pos (cf.ty t).sz with
    | true => match (cf.ty (cf.ty t).elem).sz with
      | 0 => match (cf.ty t).kd with
        | .str => true
        | _ => false
      | _ + 1 => true
    | false => false
  | .convert s t _ => both (pos (cf.ty s).sz) (pos (cf.ty t).sz)
  | .lookup t _ _ _ | .mapUpdate t _ _ _ | .mapEntry t _ _ | .entryStore t _ _ _ => mapTy cf t
  | .range t _ => pos (cf.ty t).sz
  | .index t _ _ => match pos (cf.ty t).sz, (cf.ty t).kd with
    | true, .str => true
    | _, _ => false
  | .fieldAddr t _ f => match pos (cf.ty t).sz, (cf.ty t).arr with
    | true, false => pos (cf.ty ((cf.ty t).flds.getD f (0, 0)).2).sz
    | _, _ => false
  | .build t parts => match pos (cf.ty t).sz, (cf.ty t).agg with
    | true, true => posAll cf (cf.ty t) parts.toList
    | _, _ => false
  | .buildSlice t n parts => both (pos (cf.ty t).sz) (both (pos (cf.ty (cf.ty t).elem).sz) (both (Nat.ble (n * (cf.ty (cf.ty t).elem).sz) 16777216) (denseB parts.toList 0)))
  | .makeSlice t _ _ => both (pos (cf.ty t).sz) (both (pos (cf.ty (cf.ty t).elem).sz) (pos (cf.ty (cf.ty t).elem).bytes))
  | .indexAddr t _ _ => match pos (cf.ty t).sz with
    | true => pos (cf.ty (cf.ty t).elem).sz
    | false => false
  | .call { callee := .builtin .len, argTypes, .. } => match argTypes.toList with
    | t :: _ => match pos (cf.ty t).sz with
      | true => match (cf.ty t).kd with
        | .str => true
        | .map _ _ => true
        | _ => pos (cf.ty (cf.ty t).elem).sz
      | false => false
    | _ => false
  | .call { callee := .builtin .append, argTypes, .. } => match argTypes.toList with
    | t :: _ => both (pos (cf.ty t).sz) (both (pos (cf.ty (cf.ty t).elem).sz) (pos (cf.ty (cf.ty t).elem).bytes))
    | _ => false
  | _ => true
def awpOps (P : Program) (cf : Cfg) (fz : Fz) (ops : Array Oper) (l : List Oper) (k : K) : K := List.rec k (fun o _ ih env loc h => match opTy cf o with
    | false => FF
    | true => match o.guard with
      | none => aop P cf fz o env loc h ih
      | some (j, want) => match dstOf ops j with
        | none => FF
        | some t => grdK fz env t want (fun env => aop P cf fz o env loc h ih) (fun env => putK fz env o.dst .und fun env => ih env loc h)) l
inductive AExit where
  | normal
  | exit (id : Nat)
  | ret
/-- The first region's number: by it a loop is told. -/
def Code.key : Code → Nat
  | .region id _ _ => id
  | .seq a _ => Code.key a
  | .block _ c => Code.key c
  | .loop c => Code.key c
  | _ => 0
def ann : List (Nat × Ann) → Nat → Option Ann
  | [], _ => none
  | (a, x) :: r, b => match Nat.beq a b with
    | true => some x
    | false => ann r b
/-- What a loop carries: temporaries, then variables' cells. -/
def projT (env : Env) : List Nat → (List AV → Prop) → Prop
  | [], k => up (k [])
  | t :: ts, k => asAV (nth env t) fun v => projT env ts fun vs => k (v :: vs)
def projL (loc : Loc) : List Nat → (List AV → Prop) → Prop
  | [], k => up (k [])
  | t :: ts, k => match lkp loc t with
    | some cs => projL loc ts fun vs => k (cs ++ vs)
    | none => FF
def killsK (env : Env) : List Nat → (Env → Prop) → Prop
  | [], k => up (k env)
  | t :: ts, k => setK env t .dead fun env => killsK env ts k
def injT (σ : List AV) (env : Env) : Nat → List Nat → (Env → Nat → Prop) → Prop
  | n, [], k => up (k env n)
  | n, t :: ts, k => setK env t (.av (g σ n)) fun env => injT σ env (n + 1) ts k
def injL (σ : List AV) (loc : Loc) : Nat → List Nat → (Loc → Prop) → Prop
  | _, [], k => up (k loc)
  | n, t :: ts, k => match lkp loc t with
    | some cs => lsetK loc t (gets σ n cs.length) fun loc => injL σ loc (n + cs.length) ts k
    | none => FF
def keysK : Loc → List Nat → (List Nat → Prop) → Prop
  | [], a, k => up (k a)
  | (t, _) :: r, a, k => keysK r (t :: a) k
/-- The variables that are there, but for some. -/
def restK (ys : List Nat) : Loc → List Nat → (List Nat → Prop) → Prop
  | [], a, k => up (k a)
  | (t, _) :: r, a, k => match nmem ys t with
    | true => restK ys r a k
    | false => restK ys r (t :: a) k
/-- What a loop carries it may write; what is frozen it does not carry. -/
def loopCk (fz : Fz) (an : Ann) : Bool := match mays fz.t an.wr with
  | true => match mays (some an.wr) an.tm with
    | true => List.rec true (fun t _ ih => match nmem fz.l t with | true => false | false => ih) an.lc
    | false => false
  | false => false
def annO : List (Nat × List Nat) → Nat → Option (List Nat)
  | [], _ => none
  | (a, x) :: r, b => match Nat.beq a b with
    | true => some x
    | false => annO r b
def onth (l : List Oper) : Nat → Oper := List.rec (fun _ => default) (fun x _ ih n => Nat.rec x (fun m _ => ih m) n) l
def pickOps (l : List Oper) : List Nat → List Oper
  | [] => []
  | i :: r => onth l i :: pickOps l r
abbrev KE := AExit → K
def awp (P : Program) (cf : Cfg) : Code → Fz → KE → K
  | .skip, _, Q, env, loc, h => Q .normal env loc h
  | .region id ops dr, fz, Q, env, loc, h => match dr with
    | false => awpOps P cf fz ops ops.toList (Q .normal) env loc h
    | true => match annO cf.draws id with
      | some ord => awpOps P cf ⟨fz.t, fz.l, fz.a, true, cf.gds⟩ ops (pickOps ops.toList ord) (Q .normal) env loc h
      | none => FF
  | .seq a b, fz, Q, env, loc, h => awp P cf a fz (fun e env loc h => match e with | .normal => awp P cf b fz Q env loc h | .exit i => Q (.exit i) env loc h | .ret => Q .ret env loc h) env loc h
  | .cond c a b, fz, Q, env, loc, h => match ev env c with
    | .bl true => awp P cf a fz Q env loc h
    | .bl false => awp P cf b fz Q env loc h
    | .av c => brA c (awp P cf a fz Q env loc h) (awp P cf b fz Q env loc h)
    | _ => FF
  | .block id c, fz, Q, env, loc, h => awp P cf c fz (fun e env loc h => match e with
      | .exit i => match Nat.beq i id with
        | true => Q .normal env loc h
        | false => Q (.exit i) env loc h
      | .normal => Q .normal env loc h
      | .ret => Q .ret env loc h) env loc h
  | .loop c, fz, Q, env, loc, h => match ann cf.loops (Code.key c) with
    | none => FF
    | some an => projT env an.tm fun σt => projL loc an.lc fun σl => killsK env an.wr fun env0 =>
        keysK loc fz.a fun ka => restK an.lc loc fz.l fun kl => match loopCk fz an with
        | true => loopS (fun σ h K => injT σ env0 0 an.tm fun env n => injL σ loc n an.lc fun loc =>
          awp P cf c ⟨some an.wr, kl, ka, false, []⟩ (fun e env loc h => match e with
            | .normal => projT env an.tm fun σt => projL loc an.lc fun σl => K (σt ++ σl) h
            | .exit i => Q (.exit i) env loc h
            | .ret => Q .ret env loc h) env loc h) (σt ++ σl) h
        | false => FF
  | .exit id, _, Q, env, loc, h => Q (.exit id) env loc h
  | .ret, _, Q, env, loc, h => Q .ret env loc h
  | _, _, _, _, _, _ => FF

/-- A call's results. -/
def resK (cf : Cfg) (env : Env) (loc : Loc) (h : Heap) : List ResultVar → (List AV → Prop) → Prop
  | [], k => up (k [])
  | .tmp t :: rs, k => asAV (nth env t) fun v => resK cf env loc h rs fun vs => k (v :: vs)
  | .cell t ty :: rs, k => match nth env t with
    | .loc u off => match lkp loc u with
      | some cs => match (cf.ty ty).agg with
        | true => takeK (cs.drop off) (cf.ty ty).sz fun cs => resK cf env loc h rs fun vs => k (.agg cs :: vs)
        | false => takeK (cs.drop off) 1 fun cs => resK cf env loc h rs fun vs => k (g cs 0 :: vs)
      | none => FF
    | .av p => match (cf.ty ty).agg with
      | true => loadG (cf.ty ty).sz p h fun cs => resK cf env loc h rs fun vs => k (.agg (gets cs 0 (cf.ty ty).sz) :: vs)
      | false => loadV p h fun v => resK cf env loc h rs fun vs => k (v :: vs)
    | _ => FF
def retV : List AV → AV
  | [v] => up v
  | vs => .tup vs
def retQ (cf : Cfg) (rs : List ResultVar) (Q : AV → Heap → Prop) : KE
  | .exit _, _, _, _ => FF
  | .normal, env, loc, h => resK cf env loc h rs fun vs => retA (retV vs) h Q
  | .ret, env, loc, h => resK cf env loc h rs fun vs => retA (retV vs) h Q
def deadsK : Nat → (List TV → Prop) → Prop
  | 0, k => up (k [])
  | n + 1, k => deadsK n fun l => k (.dead :: l)
def envK : List AV → Nat → (List TV → Prop) → Prop
  | [], n, k => deadsK n k
  | x :: xs, n, k => envK xs (n - 1) fun l => k (.av x :: l)
/-- What a function's body asks, called with args in the heap h. -/
def abody (P : Program) (cf : Cfg) (fn : Func) (args : List AV) (h : Heap) (Q : AV → Heap → Prop) : Prop := match fn.body with
  | some c => envK args fn.ntmps fun env => awp P cf c ⟨none, [], [], false, []⟩ (retQ cf fn.results.toList Q) env [] h
  | none => FF
end
end Am
