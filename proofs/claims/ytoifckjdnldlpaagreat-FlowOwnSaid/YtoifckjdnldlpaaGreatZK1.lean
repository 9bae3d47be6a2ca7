/- Rules for the words of the short texts: how a contract is proved of them. -/
import Derived.Test.YtoifckjdnldlpaaGreatZG0
import Derived.IntWalk
set_option linter.unusedVariables false
set_option linter.unusedSimpArgs false
namespace Am
open Go
section
variable {h : Heap} {P : Program}
@[simp] theorem g_0 (x : AV) (l : List AV) : g (x :: l) 0 = x := rfl
@[simp] theorem g_s (x : AV) (l : List AV) (n : Nat) : g (x :: l) (n + 1) = g l n := rfl
@[simp] theorem g_1 (x y : AV) (l : List AV) : g (x :: y :: l) 1 = y := rfl
@[simp] theorem g_2 (x y z : AV) (l : List AV) : g (x :: y :: z :: l) 2 = z := rfl
@[simp] theorem g_3 (x y z u : AV) (l : List AV) : g (x :: y :: z :: u :: l) 3 = u := rfl
@[simp] theorem g_4 (x y z u v : AV) (l : List AV) : g (x :: y :: z :: u :: v :: l) 4 = v := rfl
@[simp] theorem w_brA (b : Bool) (A B' : Prop) : brA (.val (.bool b)) A B' = if b = true then A else B' := by
  cases b <;> simp [brA]
@[simp] theorem w_notA (b : Bool) (k : AV → Prop) : notA (.val (.bool b)) k = k (.val (.bool !b)) := rfl
@[simp] theorem w_lss (kd : IntKind) (a b : Int) (k : AV → Prop) : binA .lss (.val (.int kd a)) (.val (.int kd b)) k = k (.val (.bool (decide (a < b)))) := by simp [binA, abin, intBin]
@[simp] theorem w_leq (kd : IntKind) (a b : Int) (k : AV → Prop) : binA .leq (.val (.int kd a)) (.val (.int kd b)) k = k (.val (.bool (decide (a ≤ b)))) := by simp [binA, abin, intBin]
@[simp] theorem w_gtr (kd : IntKind) (a b : Int) (k : AV → Prop) : binA .gtr (.val (.int kd a)) (.val (.int kd b)) k = k (.val (.bool (decide (b < a)))) := by simp [binA, abin, intBin]
@[simp] theorem w_geq (kd : IntKind) (a b : Int) (k : AV → Prop) : binA .geq (.val (.int kd a)) (.val (.int kd b)) k = k (.val (.bool (decide (b ≤ a)))) := by simp [binA, abin, intBin]
@[simp] theorem w_eql (kd : IntKind) (a b : Int) (k : AV → Prop) : binA .eql (.val (.int kd a)) (.val (.int kd b)) k = k (.val (.bool (decide (a = b)))) := by simp [binA, abin, intBin]; rfl
@[simp] theorem w_neq (kd : IntKind) (a b : Int) (k : AV → Prop) : binA .neq (.val (.int kd a)) (.val (.int kd b)) k = k (.val (.bool (!decide (a = b)))) := by simp [binA, abin, intBin]; rfl
@[simp] theorem w_add (kd : IntKind) (a b : Int) (k : AV → Prop) : binA .add (.val (.int kd a)) (.val (.int kd b)) k = k (.val (.int kd (kd.wrap (a + b)))) := by simp [binA, abin, intBin]
@[simp] theorem w_sub (kd : IntKind) (a b : Int) (k : AV → Prop) : binA .sub (.val (.int kd a)) (.val (.int kd b)) k = k (.val (.int kd (kd.wrap (a - b)))) := by simp [binA, abin, intBin]
@[simp] theorem w_mul (kd : IntKind) (a b : Int) (k : AV → Prop) : binA .mul (.val (.int kd a)) (.val (.int kd b)) k = k (.val (.int kd (kd.wrap (a * b)))) := by simp [binA, abin, intBin]
@[simp] theorem w_eqls (a b : ByteArray) (k : AV → Prop) : binA .eql (.val (.string a)) (.val (.string b)) k = k (.val (.bool (a.toList == b.toList))) := by simp [binA, abin, strBin]
@[simp] theorem w_neqs (a b : ByteArray) (k : AV → Prop) : binA .neq (.val (.string a)) (.val (.string b)) k = k (.val (.bool (!(a.toList == b.toList)))) := by simp [binA, abin, strBin]
@[simp] theorem w_eqb (a b : Bool) (k : AV → Prop) : eqbA false (.val (.bool a)) (.val (.bool b)) k = k (.val (.bool (a == b))) := rfl
@[simp] theorem w_neb (a b : Bool) (k : AV → Prop) : eqbA true (.val (.bool a)) (.val (.bool b)) k = k (.val (.bool (!(a == b)))) := rfl
@[simp] theorem w_agg (n : Nat) (cs : List AV) (k : List AV → Prop) : aggA n (.agg cs) k = (cs.length = n ∧ k cs) := rfl
@[simp] theorem w_tup (vs : List AV) (i : Nat) (k : AV → Prop) : tupA (.tup vs) i k = (i < vs.length ∧ k (vs.getD i .any)) := rfl
@[simp] theorem w_max (a b : Int) (k : AV → Prop) : maxA (.val (.int .i64 a)) (.val (.int .i64 b)) k = k (.val (.int .i64 (if b > a then b else a))) := rfl
@[simp] theorem w_min (a b : Int) (k : AV → Prop) : minA (.val (.int .i64 a)) (.val (.int .i64 b)) k = k (.val (.int .i64 (if b < a then b else a))) := rfl
@[simp] theorem w_conv (kd kd' : IntKind) (n : Int) (k : AV → Prop) : convA kd (.val (.int kd' n)) k = k (.val (.int kd (kd.wrap n))) := rfl
@[simp] theorem w_one_v (v : Value) (k : Prop) : oneA (.val v) k = k := rfl
@[simp] theorem w_one_e (k : Prop) : oneA .e0 k = k := rfl
@[simp] theorem w_one_rs (z : Nat) (l : List (List AV)) (k : Prop) : oneA (.rs z l) k = k := rfl
@[simp] theorem w_one_os (i n : Nat) (k : Prop) : oneA (.os i n) k = k := rfl
@[simp] theorem w_one_op (i j n : Nat) (k : Prop) : oneA (.op i j n) k = k := rfl
@[simp] theorem w_one_ro (l : List AV) (k : Prop) : oneA (.ro l) k = k := rfl
@[simp] theorem w_one_fn (f : Nat) (l : List AV) (k : Prop) : oneA (.fn f l) k = k := rfl
@[simp] theorem w_one_mp (i : Nat) (k : Prop) : oneA (.mp i) k = k := rfl
@[simp] theorem w_nil_op (i j n : Nat) (k : Prop) : nilA (.op i j n) k = k := rfl
@[simp] theorem w_nil_ro (l : List AV) (k : Prop) : nilA (.ro l) k = k := rfl
@[simp] theorem w_nil_fn (f : Nat) (l : List AV) (k : Prop) : nilA (.fn f l) k = k := rfl
@[simp] theorem w_fix_rs (z : Nat) (l : List (List AV)) (k : Prop) : fixA (.rs z l) k = k := rfl
@[simp] theorem w_fix_ro (l : List AV) (k : Prop) : fixA (.ro l) k = k := rfl
@[simp] theorem w_fix_e (k : Prop) : fixA .e0 k = k := rfl
@[simp] theorem w_fix_v (v : Value) (k : Prop) : fixA (.val v) k = k := rfl
@[simp] theorem w_len_rs (z : Nat) (l : List (List AV)) (k : AV → Prop) : lenA (.rs z l) k = k (.val (.int .i64 l.length)) := rfl
@[simp] theorem w_len_os (i n : Nat) (k : AV → Prop) : lenA (.os i n) k = k (.val (.int .i64 n)) := rfl
@[simp] theorem w_len_e (k : AV → Prop) : lenA .e0 k = k (.val (.int .i64 0)) := rfl
@[simp] theorem w_lenS (s : ByteArray) (k : AV → Prop) : lenS (.val (.string s)) k = k (.val (.int .i64 s.size)) := rfl
@[simp] theorem w_loadV_ro (x : AV) (l : List AV) (k : AV → Prop) : loadV (.ro (x :: l)) h k = k x := by simp [loadV]
@[simp] theorem w_loadG_ro (n : Nat) (l : List AV) (k : List AV → Prop) : loadG n (.ro l) h k = (n ≤ l.length ∧ k l) := rfl
@[simp] theorem w_fld_ro (n : Nat) (l : List AV) (k : AV → Prop) : fldA n (.ro l) k = k (.ro (l.drop n)) := rfl
@[simp] theorem w_fld_op (n i j o : Nat) (k : AV → Prop) : fldA n (.op i j o) k = k (.op i j (o + n)) := rfl
theorem w_loadV_op {id ix off z : Nat} {els : List (List AV)} (hh : h id = some (.arr z els)) (k : AV → Prop) : loadV (.op id ix off) h k = (ix < els.length ∧ off < z ∧ k (g (els.getD ix []) off)) := by simp [loadV, hh]
theorem w_loadG_op {n id ix off z : Nat} {els : List (List AV)} (hh : h id = some (.arr z els)) (k : List AV → Prop) : loadG n (.op id ix off) h k = (ix < els.length ∧ off + n ≤ z ∧ k ((els.getD ix []).drop off)) := by simp [loadG, hh]
theorem w_store {id ix off z : Nat} {els : List (List AV)} {cs : List AV} (hh : h id = some (.arr z els)) (k : Heap → Prop) : storeG (.op id ix off) cs h k = (ix < els.length ∧ off + cs.length ≤ z ∧ k (h.set id (.arr z (els.set ix (splice (els.getD ix []) off cs))))) := by simp [storeG, hh]
@[simp] theorem w_idx_rs (es z : Nat) (l : List (List AV)) (kd : IntKind) (n : Int) (k : AV → Prop) : idxA es (.rs z l) (.val (.int kd n)) h k = (z = es ∧ 0 ≤ n ∧ n < l.length ∧ k (.ro (l.getD n.toNat []))) := rfl
theorem w_idx_os {es id len z : Nat} {els : List (List AV)} (hh : h id = some (.arr z els)) (kd : IntKind) (n : Int) (k : AV → Prop) : idxA es (.os id len) (.val (.int kd n)) h k = (z = es ∧ 0 ≤ n ∧ n < len ∧ len ≤ els.length ∧ k (.op id n.toNat 0)) := by simp [idxA, hh]
@[simp] theorem w_str (s : ByteArray) (kd : IntKind) (n : Int) (k : AV → Prop) : strA (.val (.string s)) (.val (.int kd n)) k = (0 ≤ n ∧ n < s.size ∧ k (.val (.int .u8 ((s.data.toList.getD n.toNat 0).toNat)))) := rfl
@[simp] theorem w_sl_to (es z : Nat) (l : List (List AV)) (kd : IntKind) (n : Int) (k : AV → Prop) : sliceA es (.rs z l) none (some (.val (.int kd n))) k = (z = es ∧ 0 < es ∧ 0 ≤ n ∧ n ≤ l.length ∧ k (.rs z (l.take n.toNat))) := rfl
@[simp] theorem w_sl_from (es z : Nat) (l : List (List AV)) (kd : IntKind) (n : Int) (k : AV → Prop) : sliceA es (.rs z l) (some (.val (.int kd n))) none k = (z = es ∧ 0 < es ∧ 0 ≤ n ∧ n ≤ l.length ∧ k (.rs z (l.drop n.toNat))) := rfl
@[simp] theorem w_sl_mid (es z : Nat) (l : List (List AV)) (kd kd' : IntKind) (m n : Int) (k : AV → Prop) : sliceA es (.rs z l) (some (.val (.int kd m))) (some (.val (.int kd' n))) k = (z = es ∧ 0 < es ∧ 0 ≤ m ∧ m ≤ n ∧ n ≤ l.length ∧ k (.rs z ((l.take n.toNat).drop m.toNat))) := rfl
@[simp] theorem w_sl_e_to (es : Nat) (kd : IntKind) (n : Int) (k : AV → Prop) : sliceA es .e0 none (some (.val (.int kd n))) k = (0 < es ∧ n = 0 ∧ k .e0) := rfl
@[simp] theorem w_sl_e_from (es : Nat) (kd : IntKind) (n : Int) (k : AV → Prop) : sliceA es .e0 (some (.val (.int kd n))) none k = (0 < es ∧ n = 0 ∧ k .e0) := rfl
theorem HRef.refl (h : Heap) : HRef h h := fun _ n hn => ⟨n, hn, .refl⟩
theorem Wk.refl {σ : List AV} {K : List AV → Heap → Prop} (hk : K σ h) : Wk σ h K := ⟨σ, h, HRef.refl h, rfl, fun _ _ => .refl, hk⟩
theorem HRef.drop {h : Heap} {id : Nat} {n : Node} (hi : h id = none) : HRef (h.set id n) h := fun i n' hn => by
  refine ⟨n', ?_, .refl⟩
  rw [Heap.set_ne]; exact hn
  intro e; subst e; rw [hi] at hn; cases hn
theorem callS_of {f : FuncId} {args : List AV} {k : AV → Heap → Prop} (hk : ACalls P f args h k) : callS P f args h k := Wk.refl hk
theorem retA_of {v : AV} {Q : AV → Heap → Prop} (hk : Q v h) : retA v h Q := Wk.refl hk
@[simp] theorem w_callV (f : Nat) (caps args : List AV) (k : AV → Heap → Prop) : callV P (.fn f caps) args h k = callS P f (args ++ caps) h k := rfl
theorem ACalls.wk {f : FuncId} {args : List AV} {Q : AV → Heap → Prop} (hk : ACalls P f args h fun x h' => Wk [x] h' fun r h => Q (g r 0) h) : ACalls P f args h Q :=
  ⟨hk.1, fun w C vs HM hs hr => (hk.2 w C vs HM hs hr).mono fun e w' ⟨v, C', h', r, h1, E, h3, σ', h2', hh, w1, w2, w3⟩ => by
    have E2 := HRef.sound E.rel hh
    refine ⟨v, _, h2', g σ' 0, h1, E.trans E2, ?_, w3⟩
    exact (w2 0 (by simp)).sound E.rel h3⟩
theorem loop_up {body : List AV → Heap → (List AV → Heap → Prop) → Prop} {σ : List AV} (n : Nat) (I : Nat → List AV → Heap → Prop) (h0 : I 0 σ h) (hlen : ∀ k σ' h', I k σ' h' → σ'.length = σ.length)
    (step : ∀ k σ' h' K, k ≤ n → I k σ' h' → (k < n → ∀ σ'' h'', I (k + 1) σ'' h'' → K σ'' h'') → body σ' h' K) : loopS body σ h := by
  refine ⟨fun m σ h => ∃ k, k + m = n ∧ I k σ h, Wk.refl ⟨n, 0, by omega, h0⟩, ?_⟩
  rintro m σ' h' ⟨k, hk, hi⟩ hl
  refine step k σ' h' _ (by omega) hi fun hlt σ'' h'' hi' => Wk.refl ?_
  exact ⟨m - 1, by omega, k + 1, by omega, hi'⟩
theorem loop_down {body : List AV → Heap → (List AV → Heap → Prop) → Prop} {σ : List AV} (I : Nat → List AV → Heap → Prop) (n : Nat) (h0 : I n σ h)
    (step : ∀ m σ' h' K, I m σ' h' → (∀ m' σ'' h'', m' < m → I m' σ'' h'' → K σ'' h'') → body σ' h' K) : loopS body σ h := by
  refine ⟨I, Wk.refl ⟨n, h0⟩, ?_⟩
  intro m σ' h' hi hl
  exact step m σ' h' _ hi fun m' σ'' h'' hlt hi' => Wk.refl ⟨m', hlt, hi'⟩
theorem loop_ix {body : List AV → Heap → (List AV → Heap → Prop) → Prop} (n : Nat) (Inv : Nat → Prop) (h0 : Inv 0)
    (step : ∀ k, k ≤ n → Inv k → ∀ K : List AV → Heap → Prop, (k < n → Inv (k + 1) → K [I ((k + 1 : Nat) : Int)] h) → body [I k] h K) : loopS body [I 0] h := by
  refine loop_up n (fun k σ h' => σ = [I k] ∧ h' = h ∧ Inv k) ⟨rfl, rfl, h0⟩ (fun k σ' h' ⟨e, _⟩ => by rw [e]; rfl) ?_
  rintro k σ' h' K hk ⟨rfl, rfl, hi⟩ hK
  exact step k hk hi K fun hlt hi' => hK hlt _ _ ⟨rfl, rfl, hi'⟩
theorem wrap_i64 {n : Int} (h1 : -9223372036854775808 ≤ n) (h2 : n ≤ 9223372036854775807) : IntKind.i64.wrap n = n := by
  rw [IntKind.wrap_i64]; omega
theorem wrap_k {k : Nat} (h : k ≤ 4611686018427387904) : IntKind.i64.wrap ((k : Int) + 1) = ((k + 1 : Nat) : Int) := by
  rw [IntKind.wrap_i64]; omega
def SlO (sz : Nat) (els : List (List AV)) (h : Heap) (x : AV) (h' : Heap) : Prop :=
  (els = [] ∧ x = .e0 ∧ h' = h) ∨ (els ≠ [] ∧ ∃ id, h id = none ∧ x = .os id els.length ∧ h' = h.set id (.arr sz els))
theorem SlO.nil (sz : Nat) : SlO sz [] h .e0 h := .inl ⟨rfl, rfl, rfl⟩
@[simp] theorem Heap.set_set (h : Heap) (id : Nat) (a b : Node) : (h.set id a).set id b = h.set id b := by
  funext i; simp only [Heap.set]; split <;> rfl
theorem Heap.set_id {h : Heap} {id : Nat} {n : Node} (hn : h id = some n) : h.set id n = h := by
  funext i; simp only [Heap.set]; split
  · rename_i e; rw [e, hn]
  · rfl
theorem Heap.set_del {h : Heap} {id : Nat} {n : Node} (hi : h id = none) : (h.set id n).del id = h := by
  funext i
  by_cases e : i = id
  · subst e; rw [Heap.del_same, hi]
  · rw [Heap.del_ne e, Heap.set_ne e]
theorem SlO.app {sz bytes : Nat} {els ys : List (List AV)} {x : AV} {h' : Heap} {K : AV → Heap → Prop} (hs : SlO sz els h x h') (hz : (els.length + ys.length) * bytes ≤ 140737488355328)
    (hk : ∀ x2 h2, SlO sz (els ++ ys) h x2 h2 → K x2 h2) : appA sz bytes x (.rs sz ys) h' K := by
  unfold appA srcA
  refine ⟨rfl, ?_⟩
  rcases hs with ⟨rfl, rfl, rfl⟩ | ⟨hne, id, hi, rfl, rfl⟩
  · refine ⟨by simpa using hz, fun e => hk _ _ (by subst e; exact SlO.nil sz), fun e id hid => hk _ _ (.inr ⟨by simpa using e, id, hid, by simp, by simp⟩)⟩
  · simp only [Heap.set_same]
    refine ⟨trivial, Nat.le_refl _, hz, fun id' hid => ?_⟩
    rw [Heap.set_del hi] at hid ⊢
    refine hk _ _ (.inr ⟨by simp [hne], id', hid, by simp, by simp⟩)
theorem SlO.len {sz : Nat} {els : List (List AV)} {x : AV} {h' : Heap} (hs : SlO sz els h x h') (k : AV → Prop) : lenA x k = k (.val (.int .i64 els.length)) := by
  rcases hs with ⟨rfl, rfl, rfl⟩ | ⟨hne, id, hi, rfl, rfl⟩ <;> rfl
theorem SlO.one {sz : Nat} {els : List (List AV)} {x : AV} {h' : Heap} (hs : SlO sz els h x h') (k : Prop) : oneA x k = k := by
  rcases hs with ⟨rfl, rfl, rfl⟩ | ⟨hne, id, hi, rfl, rfl⟩ <;> rfl
theorem SlO.ref {sz : Nat} {els : List (List AV)} {x : AV} {h' : Heap} (hs : SlO sz els h x h') (hz : ∀ i, i < els.length → (els.getD i []).length = sz) : Ref h' h x (.rs sz els) := by
  rcases hs with ⟨rfl, rfl, rfl⟩ | ⟨hne, id, hi, rfl, rfl⟩
  · exact .e0
  · exact .frz (Heap.set_same h id _) hi (Nat.le_refl _) rfl hz fun i j _ _ => .refl
theorem SlO.href {sz : Nat} {els : List (List AV)} {x : AV} {h' : Heap} (hs : SlO sz els h x h') : HRef h' h := by
  rcases hs with ⟨rfl, rfl, rfl⟩ | ⟨hne, id, hi, rfl, rfl⟩
  · exact HRef.refl _
  · exact HRef.drop hi
end
theorem Wk.one {h h' : Heap} {v v' : AV} {Q : AV → Heap → Prop} (hr : Ref h' h v v') (hh : HRef h' h) (hq : Q v' h) : Wk [v] h' fun r h => Q (g r 0) h :=
  ⟨[v'], h, hh, rfl, fun j hj => by obtain rfl : j = 0 := by simpa using hj
                                    exact hr, hq⟩
theorem retA_wk {h h' : Heap} {v v' : AV} {Q : AV → Heap → Prop} (hr : Ref h' h v v') (hh : HRef h' h) (hq : Q v' h) : retA v h' Q := Wk.one hr hh hq
inductive Refs (h h' : Heap) : List AV → List AV → Prop
  | nil : Refs h h' [] []
  | cons {x y xs ys} (hr : Ref h h' x y) (hs : Refs h h' xs ys) : Refs h h' (x :: xs) (y :: ys)
theorem Refs.len {h h' : Heap} {xs ys : List AV} (hs : Refs h h' xs ys) : ys.length = xs.length := by
  induction hs with
  | nil => rfl
  | cons _ _ ih => simp [ih]
theorem Refs.get {h h' : Heap} {xs ys : List AV} (hs : Refs h h' xs ys) : ∀ j, Ref h h' (g xs j) (g ys j) := by
  induction hs with
  | nil => exact fun j => .refl
  | cons hr _ ih => intro j; cases j with
    | zero => exact hr
    | succ j => exact ih j
theorem Refs.refl {h h' : Heap} : ∀ (xs : List AV), Refs h h' xs xs
  | [] => .nil
  | x :: xs => .cons .refl (Refs.refl xs)
theorem Ref.aggs {h h' : Heap} {xs ys : List AV} (hs : Refs h h' xs ys) : Ref h h' (.agg xs) (.agg ys) := .agg hs.len fun j _ => hs.get j
theorem Ref.tups {h h' : Heap} {xs ys : List AV} (hs : Refs h h' xs ys) : Ref h h' (.tup xs) (.tup ys) := .tup hs.len fun j _ => hs.get j
theorem callS_wk {P : Program} {h h' : Heap} {f : FuncId} {args args' : List AV} {k : AV → Heap → Prop} (hr : Refs h h' args args') (hh : HRef h h') (hk : ACalls P f args' h' k) : callS P f args h k :=
  ⟨args', h', hh, hr.len, fun j _ => hr.get j, hk⟩
inductive RefEls (h h' : Heap) : List (List AV) → List (List AV) → Prop
  | nil : RefEls h h' [] []
  | cons {x y xs ys} (hr : Refs h h' x y) (hs : RefEls h h' xs ys) : RefEls h h' (x :: xs) (y :: ys)
theorem RefEls.len {h h' : Heap} {xs ys : List (List AV)} (hs : RefEls h h' xs ys) : ys.length = xs.length := by
  induction hs with
  | nil => rfl
  | cons _ _ ih => simp [ih]
theorem RefEls.get {h h' : Heap} {xs ys : List (List AV)} (hs : RefEls h h' xs ys) : ∀ i, Refs h h' (xs.getD i []) (ys.getD i []) := by
  induction hs with
  | nil => exact fun j => by simp; exact .nil
  | cons hr _ ih => intro j; cases j with
    | zero => exact hr
    | succ j => exact ih j
theorem Ref.els {h h' : Heap} {sz : Nat} {xs ys : List (List AV)} (hs : RefEls h h' xs ys) (hz : ∀ i, i < xs.length → (ys.getD i []).length = sz) : Ref h h' (.rs sz xs) (.rs sz ys) :=
  .rs hs.len hz fun i j _ _ => (hs.get i).get j
theorem SlO.wk {h h' : Heap} {sz : Nat} {els : List (List AV)} {x : AV} (hs : SlO sz els h x h') (hz : ∀ i, i < els.length → (els.getD i []).length = sz) : Ref h' h x (.rs sz els) ∧ HRef h' h := ⟨hs.ref hz, hs.href⟩
theorem ACalls.wk1 {P : Program} {h : Heap} {f : FuncId} {args : List AV} {Q : AV → Heap → Prop} (hk : ACalls P f args h fun x h' => ∃ v h2, Ref h' h2 x v ∧ HRef h' h2 ∧ Q v h2) : ACalls P f args h Q :=
  ACalls.wk (hk.mono fun x h' ⟨v, h2, r1, r2, r3⟩ => Wk.one r1 r2 r3)
end Am
