/- Own blocks by address; maps whose keys are pairs. -/
import Derived.Test.YtoifckjdnldlpaaGreatZK1
set_option linter.unusedVariables false
set_option linter.unusedSimpArgs false
namespace Am
open Go
abbrev Pc := Nat × Nat
inductive Ad where
  | pa | mh | mw | mi | wk | nb | cb | it
  | cs (f : Nat) | cm (k : Pc) | hm (p : Pc) | wa (k : Pc) | ia (p : Pc) | tmp (n : Nat)
  deriving DecidableEq
abbrev Con := Ad → Option Node
abbrev Lo := Ad → Nat
def Con.set (c : Con) (a : Ad) (n : Node) : Con := fun b => if b = a then some n else c b
def Con.del (c : Con) (a : Ad) : Con := fun b => if b = a then none else c b
def Lo.set (l : Lo) (a : Ad) (i : Nat) : Lo := fun b => if b = a then i else l b
@[simp] theorem Con.set_same (c : Con) (a : Ad) (n : Node) : c.set a n a = some n := by simp [Con.set]
theorem Con.set_ne {c : Con} {a b : Ad} {n : Node} (h : b ≠ a) : c.set a n b = c b := by simp [Con.set, h]
@[simp] theorem Lo.set_same (l : Lo) (a : Ad) (i : Nat) : l.set a i a = i := by simp [Lo.set]
theorem Lo.set_ne {l : Lo} {a b : Ad} {i : Nat} (h : b ≠ a) : l.set a i b = l b := by simp [Lo.set, h]
structure RC (hb : Heap) (c : Con) (l : Lo) (h : Heap) : Prop where
  own : ∀ a n, c a = some n → h (l a) = some n
  new : ∀ a n, c a = some n → hb (l a) = none
  inj : ∀ a b m n, c a = some m → c b = some n → l a = l b → a = b
  fr : ∀ j n, hb j = some n → h j = some n
section
variable {hb h : Heap} {c : Con} {l : Lo}
theorem RC.start {hb : Heap} : RC hb (fun _ => none) l hb := ⟨fun _ _ h => by (cases h), fun _ _ h => by (cases h), fun _ _ _ _ h => by (cases h), fun _ _ h => h⟩
theorem RC.weak (R : RC hb c l h) {c' : Con} (hc : ∀ a n, c' a = some n → c a = some n) : RC hb c' l h :=
  ⟨fun a n e => R.own a n (hc a n e), fun a n e => R.new a n (hc a n e), fun a b m n e e' => R.inj a b m n (hc a m e) (hc b n e'), R.fr⟩
theorem RC.congr (R : RC hb c l h) {c' : Con} {l' : Lo} (hc : ∀ a n, c' a = some n → c a = some n ∧ l' a = l a) : RC hb c' l' h :=
  ⟨fun a n e => by rw [(hc a n e).2]; exact R.own a n (hc a n e).1, fun a n e => by rw [(hc a n e).2]; exact R.new a n (hc a n e).1,
   fun a b m n e e' h => R.inj a b m n (hc a m e).1 (hc b n e').1 (by rw [← (hc a m e).2, ← (hc b n e').2]; exact h), R.fr⟩
theorem RC.upd (R : RC hb c l h) {a : Ad} {m : Node} (n : Node) (ha : c a = some m) : RC hb (c.set a n) l (h.set (l a) n) := by
  refine ⟨fun b n' e => ?_, fun b n' e => ?_, fun b d m' n' e e' hl => ?_, fun j n' hj => ?_⟩
  · by_cases hba : b = a
    · subst hba; rw [Con.set_same] at e; cases e; exact Heap.set_same _ _ _
    · rw [Con.set_ne hba] at e
      rw [Heap.set_ne fun hl => hba (R.inj b a _ _ e ha hl)]; exact R.own b _ e
  · by_cases hba : b = a
    · subst hba; exact R.new b m ha
    · rw [Con.set_ne hba] at e; exact R.new b _ e
  · have h1 : ∃ q, c b = some q := by
      by_cases hba : b = a
      · subst hba; exact ⟨_, ha⟩
      · rw [Con.set_ne hba] at e; exact ⟨_, e⟩
    have h2 : ∃ q, c d = some q := by
      by_cases hba : d = a
      · subst hba; exact ⟨_, ha⟩
      · rw [Con.set_ne hba] at e'; exact ⟨_, e'⟩
    obtain ⟨q1, e1⟩ := h1
    obtain ⟨q2, e2⟩ := h2
    exact R.inj b d _ _ e1 e2 hl
  · rw [Heap.set_ne]; exact R.fr j n' hj
    rintro rfl; rw [R.new a m ha] at hj; cases hj
theorem RC.ne (R : RC hb c l h) {a : Ad} {m : Node} {i : Nat} (ha : c a = some m) (hi : h i = none) : l a ≠ i := by
  rintro rfl; rw [R.own a m ha] at hi; cases hi
theorem RC.mk' (R : RC hb c l h) (a : Ad) {i : Nat} (n : Node) (hi : h i = none) : RC hb (c.set a n) (l.set a i) (h.set i n) := by
  have hbi : hb i = none := by
    cases e : hb i with
    | none => rfl
    | some n => rw [R.fr i n e] at hi; cases hi
  refine ⟨fun b n' e => ?_, fun b n' e => ?_, fun b d m' n' e e' hl => ?_, fun j n' hj => ?_⟩
  · by_cases hba : b = a
    · subst hba; rw [Con.set_same] at e; cases e; rw [Lo.set_same]; exact Heap.set_same _ _ _
    · rw [Con.set_ne hba] at e
      rw [Lo.set_ne hba, Heap.set_ne (R.ne e hi)]; exact R.own b _ e
  · by_cases hba : b = a
    · subst hba; rw [Lo.set_same]; exact hbi
    · rw [Con.set_ne hba] at e; rw [Lo.set_ne hba]; exact R.new b _ e
  · by_cases hba : b = a
    · by_cases hda : d = a
      · rw [hba, hda]
      · subst hba
        rw [Con.set_ne hda] at e'
        rw [Lo.set_same, Lo.set_ne hda] at hl
        exact absurd hl.symm (R.ne e' hi)
    · rw [Con.set_ne hba] at e
      by_cases hda : d = a
      · subst hda
        rw [Lo.set_same, Lo.set_ne hba] at hl
        exact absurd hl (R.ne e hi)
      · rw [Con.set_ne hda] at e'
        rw [Lo.set_ne hba, Lo.set_ne hda] at hl
        exact R.inj b d _ _ e e' hl
  · rw [Heap.set_ne]; exact R.fr j n' hj
    rintro rfl; rw [hbi] at hj; cases hj
theorem RC.del (R : RC hb c l h) {a : Ad} {m : Node} (ha : c a = some m) : RC hb (c.del a) l (h.del (l a)) := by
  refine ⟨fun b n' e => ?_, fun b n' e => ?_, fun b d m' n' e e' hl => ?_, fun j n' hj => ?_⟩
  · have hba : b ≠ a := fun x => by subst x; simp [Con.del] at e
    have e : c b = some n' := by simpa [Con.del, hba] using e
    rw [Heap.del_ne fun hl => hba (R.inj b a _ _ e ha hl)]; exact R.own b _ e
  · have hba : b ≠ a := fun x => by subst x; simp [Con.del] at e
    exact R.new b n' (by simpa [Con.del, hba] using e)
  · have hba : b ≠ a := fun x => by subst x; simp [Con.del] at e
    have hda : d ≠ a := fun x => by subst x; simp [Con.del] at e'
    exact R.inj b d m' n' (by simpa [Con.del, hba] using e) (by simpa [Con.del, hda] using e') hl
  · rw [Heap.del_ne]; exact R.fr j n' hj
    rintro rfl; rw [R.new a m ha] at hj; cases hj
theorem RC.toBase (R : RC hb c l h) {a : Ad} {n : Node} (ha : c a = some n) : RC (hb.set (l a) n) (c.del a) l h := by
  refine ⟨fun b n' e => ?_, fun b n' e => ?_, fun b d m' n' e e' hl => ?_, fun j n' hj => ?_⟩
  · have hba : b ≠ a := fun x => by subst x; simp [Con.del] at e
    exact R.own b n' (by simpa [Con.del, hba] using e)
  · have hba : b ≠ a := fun x => by subst x; simp [Con.del] at e
    have e : c b = some n' := by simpa [Con.del, hba] using e
    rw [Heap.set_ne fun hl => hba (R.inj b a _ _ e ha hl)]; exact R.new b _ e
  · have hba : b ≠ a := fun x => by subst x; simp [Con.del] at e
    have hda : d ≠ a := fun x => by subst x; simp [Con.del] at e'
    exact R.inj b d m' n' (by simpa [Con.del, hba] using e) (by simpa [Con.del, hda] using e') hl
  · by_cases e : j = l a
    · subst e; rw [Heap.set_same] at hj; cases hj; exact R.own a _ ha
    · rw [Heap.set_ne e] at hj; exact R.fr j n' hj
theorem RC.ofBase {i : Nat} {n : Node} (R : RC (hb.set i n) c l h) (a : Ad) (hi : hb i = none) : RC hb (c.set a n) (l.set a i) h := by
  have hn : ∀ b n', c b = some n' → l b ≠ i ∧ hb (l b) = none := fun b n' e => by
    have h1 := R.new b n' e
    have h2 : l b ≠ i := fun x => by rw [x, Heap.set_same] at h1; cases h1
    rw [Heap.set_ne h2] at h1
    exact ⟨h2, h1⟩
  refine ⟨fun b n' e => ?_, fun b n' e => ?_, fun b d m' n' e e' hl => ?_, fun j n' hj => ?_⟩
  · by_cases hba : b = a
    · subst hba; rw [Con.set_same] at e; cases e; rw [Lo.set_same]; exact R.fr i _ (Heap.set_same _ _ _)
    · rw [Con.set_ne hba] at e; rw [Lo.set_ne hba]; exact R.own b _ e
  · by_cases hba : b = a
    · subst hba; rw [Lo.set_same]; exact hi
    · rw [Con.set_ne hba] at e; rw [Lo.set_ne hba]; exact (hn b _ e).2
  · by_cases hba : b = a
    · by_cases hda : d = a
      · rw [hba, hda]
      · subst hba
        rw [Con.set_ne hda] at e'
        rw [Lo.set_same, Lo.set_ne hda] at hl
        exact absurd hl.symm (hn d _ e').1
    · rw [Con.set_ne hba] at e
      by_cases hda : d = a
      · subst hda
        rw [Lo.set_same, Lo.set_ne hba] at hl
        exact absurd hl (hn b _ e).1
      · rw [Con.set_ne hda] at e'
        rw [Lo.set_ne hba, Lo.set_ne hda] at hl
        exact R.inj b d _ _ e e' hl
  · have : j ≠ i := fun e => by subst e; rw [hi] at hj; cases hj
    exact R.fr j n' (by rw [Heap.set_ne this]; exact hj)
theorem RC.app1 (R : RC hb c l h) (a : Ad) {sz bytes : Nat} {els : List (List AV)} {y : List AV} {x : AV} {K : AV → Heap → Prop}
    (hx : (x = .e0 ∧ els = []) ∨ ∃ len all, x = .os (l a) len ∧ c a = some (.arr sz all) ∧ len ≤ all.length ∧ els = all.take len) (hz : (els.length + 1) * bytes ≤ 140737488355328)
    (hk : ∀ i h', RC hb (c.set a (.arr sz (els ++ [y]))) (l.set a i) h' → K (.os i (els.length + 1)) h') : appA sz bytes x (.rs sz [y]) h K := by
  unfold appA srcA
  refine ⟨rfl, ?_⟩
  rcases hx with ⟨rfl, rfl⟩ | ⟨len, all, rfl, ha, hle, rfl⟩
  · exact ⟨by simpa using hz, fun e => by simp at e, fun _ id hid => hk id _ (R.mk' a _ hid)⟩
  · have hlen : (all.take len).length = len := by simp [hle]
    rw [hlen] at hz hk
    simp only [R.own a _ ha]
    refine ⟨trivial, hle, by simpa using hz, fun id' hid' => ?_⟩
    have R1 := (R.del ha).mk' a (.arr sz (all.take len ++ [y])) hid'
    refine hk id' _ ?_
    have : (c.del a).set a (.arr sz (all.take len ++ [y])) = c.set a (.arr sz (all.take len ++ [y])) := by
      funext b; simp only [Con.set, Con.del]; split <;> rfl
    rwa [this] at R1
def fzA (id : Nat) (cs : List AV) : AV → AV
  | .op i 0 0 => if i = id then .ro cs else .op i 0 0
  | x => x
def fzW (id : Nat) (cs : List AV) : AV → AV
  | .fn f caps => .fn f (caps.map (fzA id cs))
  | x => x
def fzN (id : Nat) (cs : List AV) : Node → Node
  | .arr 1 els => .arr 1 (els.map fun e => e.map (fzW id cs))
  | n => n
theorem g_map (f : AV → AV) (hf : f .any = .any) (l : List AV) (j : Nat) : g (l.map f) j = f (g l j) := by
  simp only [g, List.getD_eq_getElem?_getD, List.getElem?_map]
  cases l[j]? <;> simp [hf]
def Con.fz (c : Con) (t : Ad) (id : Nat) (cs : List AV) : Con := fun b => if b = t then none else if b = .wk then (c b).map (fzN id cs) else c b
theorem RC.freeze (R : RC hb c l h) {t : Ad} {sz : Nat} {cs : List AV} (ht : c t = some (.arr sz [cs])) (hcs : cs.length = sz) (htw : t ≠ .wk) (hz : ∀ els, c .wk = some (.arr 1 els) → ∀ i, i < els.length → (els.getD i []).length = 1) :
    ∃ h', HRef h h' ∧ RC hb (c.fz t (l t) cs) l h' := by
  have hwt : Ad.wk ≠ t := fun e => htw e.symm
  have key : ∀ h' : Heap, h' (l t) = none → ∀ x, Ref h h' x (fzW (l t) cs x) := fun h' hn x => by
    have h1 : ∀ y, Ref h h' y (fzA (l t) cs y) := fun y => by
      unfold fzA
      split
      · rename_i i
        by_cases e : i = l t
        · rw [if_pos e]; subst e
          exact .fro (R.own t _ ht) hn (by simp) (by simp [hcs]) fun j hj => by simp only [Nat.zero_add, List.getD_cons_zero]; exact .refl
        · rw [if_neg e]; exact .refl
      · exact .refl
    unfold fzW
    split
    · exact .fn (by simp) fun j hj => by rw [g_map _ rfl]; exact h1 _
    · exact .refl
  have R1 := R.del ht
  cases hw : c .wk with
  | none =>
    refine ⟨h.del (l t), (fun i n hi => ⟨n, ?_, .refl⟩), R1.weak fun b n e => ?_⟩
    · by_cases e : i = l t
      · subst e; rw [Heap.del_same] at hi; cases hi
      · rwa [Heap.del_ne e] at hi
    · simp only [Con.fz, Con.del] at e ⊢
      by_cases e1 : b = t
      · rw [if_pos e1] at e; cases e
      · rw [if_neg e1] at e ⊢
        by_cases e2 : b = .wk
        · subst e2; rw [if_pos rfl, hw] at e; cases e
        · rwa [if_neg e2] at e
  | some nd =>
    have hnw : l .wk ≠ l t := fun e => hwt (R.inj _ _ _ _ hw ht e)
    have R2 := R1.upd (fzN (l t) cs nd) (a := .wk) (m := nd) (by simp only [Con.del, if_neg hwt]; exact hw)
    refine ⟨(h.del (l t)).set (l .wk) (fzN (l t) cs nd), fun i n' hi => ?_, R2.weak fun b n e => ?_⟩
    · by_cases e : i = l .wk
      · subst e
        rw [Heap.set_same] at hi
        cases hi
        refine ⟨nd, R.own _ _ hw, ?_⟩
        unfold fzN
        split
        · rename_i els
          refine .arr (by simp) (fun i hi => ?_) fun i j hi hj => ?_
          · have := hz els hw i hi
            rw [List.getD_eq_getElem?_getD, List.getElem?_map]
            rw [List.getD_eq_getElem?_getD] at this
            simp only [List.getElem?_eq_getElem hi, Option.getD_some, Option.map_some, List.length_map] at this ⊢
            exact this
          · have e1 : (els.map fun e => e.map (fzW (l t) cs)).getD i [] = (els.getD i []).map (fzW (l t) cs) := by
              rw [List.getD_eq_getElem?_getD, List.getElem?_map, List.getD_eq_getElem?_getD]
              simp [List.getElem?_eq_getElem hi]
            rw [e1, g_map _ rfl]
            refine key _ ?_ _
            rw [Heap.set_ne hnw.symm, Heap.del_same]
        · exact .refl
      · rw [Heap.set_ne e] at hi
        by_cases e2 : i = l t
        · subst e2; rw [Heap.del_same] at hi; cases hi
        · rw [Heap.del_ne e2] at hi; exact ⟨n', hi, .refl⟩
    · simp only [Con.fz] at e
      by_cases e1 : b = t
      · rw [if_pos e1] at e; cases e
      · rw [if_neg e1] at e
        by_cases e2 : b = .wk
        · subst e2; rw [if_pos rfl, hw] at e; simpa [Con.set] using e
        · rw [if_neg e2] at e; simp only [Con.set, if_neg e2, Con.del, if_neg e1]; exact e
end
abbrev kC (p : Pc) : AV := .agg [I (p.1 : Nat), I (p.2 : Nat)]
abbrev plC (p : Pc) : List AV := [I (p.1 : Nat), I (p.2 : Nat)]
abbrev K2 : List TK := [.int .i64, .int .i64]
def mpN (ks : List Pc) (v : Pc → AV) : Node := .map (ks.map fun k => (kC k, v k))
def insK (ks : List Pc) (k : Pc) : List Pc := if k ∈ ks then ks else ks ++ [k]
def updV (v : Pc → AV) (k : Pc) (x : AV) : Pc → AV := fun q => if q = k then x else v q
theorem eqKey_kC (p q : Pc) : eqKey K2 (kC p) (kC q) = some (decide (p = q)) := by
  obtain ⟨a, b⟩ := p
  obtain ⟨a', b'⟩ := q
  simp only [eqKey, K2, List.length_cons, List.length_nil, and_self, if_true, eqCells, eqCell]
  by_cases h1 : a = a'
  · subst h1
    by_cases h2 : b = b'
    · subst h2; simp
    · have : ((b : Int) == (b' : Int)) = false := by simp; omega
      simp [this, h2]
  · have : ((a : Int) == (a' : Int)) = false := by simp; omega
    simp [this, h1]
theorem findA_in {k : Pc} {v : Pc → AV} : ∀ {ks : List Pc}, k ∈ ks → ∀ i, ∃ j, ∃ hj : j < ks.length, ks[j] = k ∧ findA K2 (kC k) (ks.map fun k => (kC k, v k)) i = some (some (i + j))
  | [], h, _ => by cases h
  | q :: ks, h, i => by
    simp only [List.map_cons, findA, eqKey_kC]
    by_cases e : k = q
    · subst e
      exact ⟨0, by simp, rfl, by simp⟩
    · obtain ⟨j, hj, h1, h2⟩ := findA_in (v := v) ((List.mem_cons.1 h).resolve_left e) (i + 1)
      refine ⟨j + 1, by simpa using hj, by simpa using h1, ?_⟩
      simp only [e, decide_false]
      rw [h2]; simp; omega
theorem findA_out {k : Pc} {v : Pc → AV} : ∀ {ks : List Pc}, k ∉ ks → ∀ i, findA K2 (kC k) (ks.map fun k => (kC k, v k)) i = some none
  | [], _, _ => rfl
  | q :: ks, h, i => by
    simp only [List.map_cons, findA, eqKey_kC]
    have e : k ≠ q := fun e => h (by simp [e])
    simp only [e, decide_false]
    exact findA_out (fun e => h (by simp [e])) _
section
variable {h : Heap} {ks : List Pc} {v : Pc → AV} {id : Nat} {k : Pc} {z : AV}
theorem look_c {K : AV → Prop} (hh : h id = some (mpN ks v)) (hq : K (if k ∈ ks then v k else z)) : lookA K2 false z (.mp id) (kC k) h K := by
  unfold lookA mapA
  simp only [hh, mpN]
  by_cases hk : k ∈ ks
  · obtain ⟨j, hj, h1, h2⟩ := findA_in (v := v) hk 0
    rw [h2]
    rw [if_pos hk] at hq
    simpa [eval2, List.getD_eq_getElem?_getD, hj, h1] using hq
  · rw [findA_out hk]
    rw [if_neg hk] at hq
    simpa using hq
theorem mp_set (hn : ks.Nodup) {j : Nat} (hj : j < ks.length) (hk : ks[j] = k) (x : AV) : (ks.map fun k => (kC k, v k)).set j (kC k, x) = ks.map fun q => (kC q, updV v k x q) := by
  refine List.ext_getElem (by simp) fun i h1 h2 => ?_
  have hi : i < ks.length := by simpa using h2
  rw [List.getElem_set]
  by_cases e : j = i
  · subst e; simp [hk, updV]
  · have : ks[i] ≠ k := fun e2 => e (by
      rw [← hk] at e2
      exact ((List.getElem_inj hn).1 e2).symm)
    have e' : ¬ i = j := fun x => e x.symm
    simp [e, updV, this]
theorem mp_app (hk : k ∉ ks) (x : AV) : (ks.map fun k => (kC k, v k)) ++ [(kC k, x)] = (ks ++ [k]).map fun q => (kC q, updV v k x q) := by
  simp only [List.map_append, List.map_cons, List.map_nil]
  congr 1
  · refine List.map_congr_left fun q hq => ?_
    have : q ≠ k := fun e => hk (e ▸ hq)
    simp [updV, this]
  · simp [updV]
theorem upd_c (hn : ks.Nodup) {x : AV} {K : Heap → Prop} (hh : h id = some (mpN ks v)) (hq : K (h.set id (mpN (insK ks k) (updV v k x)))) : updA K2 (.mp id) (kC k) x h K := by
  unfold updA mapA
  simp only [hh, mpN]
  unfold insK mpN at hq
  by_cases hk : k ∈ ks
  · obtain ⟨j, hj, h1, h2⟩ := findA_in (v := v) hk 0
    rw [h2]
    rw [if_pos hk, ← mp_set hn hj h1] at hq
    simpa using hq
  · rw [findA_out hk]
    rw [if_neg hk, ← mp_app hk] at hq
    simpa using hq
theorem ent_c (hn : ks.Nodup) {K : AV → Heap → Prop} (hh : h id = some (mpN ks v)) (hq : ∀ i (hi : i < (insK ks k).length), (insK ks k)[i] = k → K (.tup [if k ∈ ks then v k else z, I i]) (h.set id (mpN (insK ks k) (updV v k (if k ∈ ks then v k else z))))) : entA K2 z (.mp id) (kC k) h K := by
  unfold entA mapA
  simp only [hh, mpN]
  unfold mpN at hq
  by_cases hk : k ∈ ks
  · obtain ⟨j, hj, h1, h2⟩ := findA_in (v := v) hk 0
    rw [h2]
    have e1 : insK ks k = ks := by rw [insK, if_pos hk]
    have := hq j (by rw [e1]; exact hj) (by simp only [e1]; exact h1)
    rw [e1, if_pos hk, ← mp_set hn hj h1] at this
    simpa [eval2, List.getD_eq_getElem?_getD, hj, h1] using this
  · rw [findA_out hk]
    have e1 : insK ks k = ks ++ [k] := by rw [insK, if_neg hk]
    have := hq ks.length (by rw [e1]; simp) (by simp only [e1]; simp)
    rw [e1, if_neg hk, ← mp_app hk] at this
    simpa using this
theorem entS_c (hn : ks.Nodup) {x : AV} {K : Heap → Prop} {i : Nat} (hh : h id = some (mpN ks v)) (hi : i < ks.length) (hk : ks[i] = k) (hq : K (h.set id (mpN ks (updV v k x)))) : entS (.mp id) (I i) x h K := by
  unfold entS
  simp only [hh, mpN]
  unfold mpN at hq
  rw [← mp_set hn hi hk] at hq
  refine ⟨by omega, by simpa using hi, ?_⟩
  rw [Int.toNat_natCast]
  have : ekey (ks.map fun k => (kC k, v k)) i = kC k := by simp [ekey, List.getD_eq_getElem?_getD, hi, hk]
  rw [this]; exact hq
theorem range_c {K : AV → Heap → Prop} (hh : h id = some (mpN ks v)) (hq : ∀ it, h it = none → K (.op it 0 0) (h.set it (.iter id ks.length (List.range ks.length) none))) : rangeA (.mp id) h K := by
  unfold rangeA
  simp only [hh, mpN]
  intro it hit
  simpa using hq it hit
theorem next_c {it : Nat} {left : List Nat} {cur : Option Nat} {K : AV → Heap → Prop} (hi : h it = some (.iter id ks.length left cur)) (hh : h id = some (mpN ks v)) (hl : ∀ i, i ∈ left → i < ks.length)
    (h0 : left = [] → K (.tup [B false]) h) (h1 : ∀ i (hi : i < ks.length), i ∈ left → K (.tup [B true, kC ks[i], v ks[i]]) (h.set it (.iter id ks.length (left.erase i) (some i)))) : nextA (.op it 0 0) h K := by
  unfold nextA iterA
  simp only [hi, hh, mpN]
  refine ⟨by simp, h0, fun i him => ?_⟩
  have := h1 i (hl i him) him
  simpa [ekey, eval2, List.getD_eq_getElem?_getD, hl i him] using this
theorem entry_c {it i : Nat} {left : List Nat} {K : AV → Prop} (hit : h it = some (.iter id ks.length left (some i))) (hh : h id = some (mpN ks v)) (hi : i < ks.length) (hq : K (.tup [kC ks[i], v ks[i]])) : entryA (.op it 0 0) h K := by
  unfold entryA iterA
  simp only [hit, hh, mpN]
  refine ⟨by simp, ?_⟩
  simpa [ekey, eval2, List.getD_eq_getElem?_getD, hi] using hq
end
theorem insK_nodup {ks : List Pc} {k : Pc} (hn : ks.Nodup) : (insK ks k).Nodup := by
  unfold insK
  split
  · exact hn
  · rename_i hk
    rw [List.nodup_append]
    exact ⟨hn, by simp, fun a ha b hb => by
      have : b = k := by simpa using hb
      subst this; rintro rfl; exact hk ha⟩
@[simp] theorem insK_mem {ks : List Pc} {k q : Pc} : q ∈ insK ks k ↔ q ∈ ks ∨ q = k := by
  unfold insK
  split
  · rename_i hk
    exact ⟨.inl, fun h => h.elim id fun e => e ▸ hk⟩
  · simp
end Am
