/- A drawn region whose check holds: every order comes to what the machine tells. -/
import Derived.Test.YtoifckjdnldlpaaD9
set_option linter.unusedVariables false
set_option linter.unusedSimpArgs false
namespace Am
open Go
def edges (o : Oper) : List Nat := (o.after.toList.filter (Region.binds .any)).map (·.on)
/-- What comes before each operation, by the edges. -/
def preT (l : List Oper) : List (List Nat) := l.foldl (fun T o => T ++ [((edges o).flatMap fun j => j :: T.getD j []).eraseDups]) []
inductive Path (ops : Array Oper) : Nat → Nat → Prop
  | edge {i j o} (ho : ops[i]? = some o) (h : j ∈ edges o) : Path ops i j
  | step {i j m o} (ho : ops[i]? = some o) (h : m ∈ edges o) (hp : Path ops m j) : Path ops i j
theorem preT_len : ∀ (l : List Oper), (preT l).length = l.length := by
  intro l
  have : ∀ (l : List Oper) (T : List (List Nat)), (l.foldl (fun T o => T ++ [((edges o).flatMap fun j => j :: T.getD j []).eraseDups]) T).length = T.length + l.length := by
    intro l
    induction l with
    | nil => intro T; rfl
    | cons o l ih => intro T; rw [List.foldl_cons, ih]; simp; omega
  rw [preT, this]; simp
theorem preT_path {ops : Array Oper} : ∀ (l : List Oper) (T : List (List Nat)) (pre : List Oper), ops.toList = pre ++ l → T.length = pre.length → (∀ i j, j ∈ T.getD i [] → Path ops i j) →
    ∀ i j, j ∈ (l.foldl (fun T o => T ++ [((edges o).flatMap fun j => j :: T.getD j []).eraseDups]) T).getD i [] → Path ops i j
  | [], T, pre, h1, h2, h3, i, j, hj => h3 i j hj
  | o :: l, T, pre, h1, h2, h3, i, j, hj => by
    refine preT_path l (T ++ [((edges o).flatMap fun j => j :: T.getD j []).eraseDups]) (pre ++ [o]) (by simp [h1]) (by simp [h2]) (fun i j hj => ?_) i j hj
    by_cases hi : i < T.length
    · rw [getD_app_l hi] at hj; exact h3 i j hj
    · by_cases hi2 : i = T.length
      · subst hi2
        rw [getD_app_r (Nat.le_refl _), Nat.sub_self] at hj
        simp only [List.getD_cons_zero] at hj
        rw [List.mem_eraseDups] at hj
        obtain ⟨m, hm, hj⟩ := List.mem_flatMap.1 hj
        have ho : ops[T.length]? = some o := by
          rw [← Array.getElem?_toList, h1, h2]; simp
        rcases List.mem_cons.1 hj with rfl | hj
        · exact .edge ho hm
        · exact .step ho hm (h3 m j hj)
      · rw [List.getD_eq_getElem?_getD, List.getElem?_eq_none (by simp; omega)] at hj
        simp at hj
noncomputable def okB (cf : Cfg) (ops : Array Oper) (T : List (List Nat)) (j i : Nat) : Bool := (!Nat.beq j i) && (nmem (T.getD i []) j || pairOk cf ops (onth ops.toList j) (onth ops.toList i))
noncomputable def pairsB (cf : Cfg) (ops : Array Oper) (T : List (List Nat)) : List Nat → Bool
  | [] => true
  | j :: r => r.all (okB cf ops T j) && pairsB cf ops T r
noncomputable def drawOk (cf : Cfg) (ops : Array Oper) (ord : List Nat) : Bool :=
  Nat.ble ord.length ops.size && pairsB cf ops (preT ops.toList) ord && ord.all (fun i => Nat.blt i ops.size) && (List.range ops.size).all (fun i => nmem ord i) &&
  (ops.toList.zipIdx).all fun p => (edges p.1).all fun j => Nat.blt j p.2
theorem pairsB_pw {cf : Cfg} {ops : Array Oper} {T : List (List Nat)} : ∀ {l : List Nat}, pairsB cf ops T l = true → l.Pairwise fun j i => okB cf ops T j i = true
  | [], _ => .nil
  | j :: r, h => by
    simp only [pairsB, Bool.and_eq_true] at h
    exact .cons (fun i hi => List.all_eq_true.1 h.1 i hi) (pairsB_pw h.2)
theorem onth_eq : ∀ (l : List Oper) (i : Nat), onth l i = l.getD i default
  | [], _ => rfl
  | x :: xs, 0 => rfl
  | x :: xs, n + 1 => (onth_eq xs n).trans (by simp)
section
variable {P : Program} {cf : Cfg} {b : Base} {fz : Fz} {k : K} {ops : Array Oper} {Q : Exit → Act → World → Prop} {ord : List Nat}
/-- What is listed has what comes before it listed. -/
def Closed (ops : Array Oper) (listed : Array Bool) : Prop := ∀ i o, listed.getD i false = true → ops[i]? = some o → ∀ j, j ∈ edges o → listed.getD j false = true
theorem Closed.path {listed : Array Bool} (hc : Closed ops listed) {i j : Nat} (hp : Path ops i j) : (∀ o, ops[i]? = some o → ∀ j, j ∈ edges o → listed.getD j false = true) → listed.getD j false = true := by
  induction hp with
  | edge ho h => exact fun hr => hr _ ho _ h
  | @step i j m o ho h hp ih =>
    intro hr
    exact ih fun o' ho' j' hj' => hc m o' (hr _ ho _ h) ho' j' hj'
end
end Am
