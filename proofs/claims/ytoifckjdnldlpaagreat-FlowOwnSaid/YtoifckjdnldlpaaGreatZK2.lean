/- Trees: sorts and terms; how they lie us values. -/
import Derived.Test.YtoifckjdnldlpaaGreatZK1
set_option linter.unusedVariables false
set_option linter.unusedSimpArgs false
namespace Am
open Go
inductive Rt (α : Type) where
  | mk (a : α) (us : List (Rt α))
  deriving Inhabited
namespace Rt
variable {α : Type}
def lab : Rt α → α | mk a _ => a
def kids : Rt α → List (Rt α) | mk _ us => us
theorem ind {P : Rt α → Prop} (h : ∀ a us, (∀ t, t ∈ us → P t) → P (mk a us)) : ∀ t, P t := by
  intro t
  exact Rt.rec (motive_1 := P) (motive_2 := fun l => ∀ t, t ∈ l → P t) (fun a us ih => h a us ih) (fun t ht => by cases ht)
    (fun t l h1 h2 u hu => (List.mem_cons.1 hu).elim (fun e => e ▸ h1) fun hu => h2 _ hu) t
mutual
def nodes : Rt α → Nat
  | mk _ us => nodesL us + 1
def nodesL : List (Rt α) → Nat
  | [] => 0
  | t :: ts => nodes t + nodesL ts
end
mutual
def depth : Rt α → Nat
  | mk _ us => depthL us + 1
def depthL : List (Rt α) → Nat
  | [] => 0
  | t :: ts => max (depth t) (depthL ts)
end
@[simp] theorem nodesL_append (l l' : List (Rt α)) : nodesL (l ++ l') = nodesL l + nodesL l' := by
  induction l with
  | nil => simp [nodesL]
  | cons t l ih => simp [nodesL, ih]; omega
@[simp] theorem depthL_append (l l' : List (Rt α)) : depthL (l ++ l') = max (depthL l) (depthL l') := by
  induction l with
  | nil => simp [depthL]
  | cons t l ih => simp only [List.cons_append, depthL, ih]; omega
theorem nodes_pos (t : Rt α) : 1 ≤ nodes t := by cases t; simp [nodes]
theorem depth_pos (t : Rt α) : 1 ≤ depth t := by cases t; simp [depth]
theorem nodesL_take_succ {l : List (Rt α)} {k : Nat} (hk : k < l.length) : nodesL (l.take (k + 1)) = nodesL (l.take k) + nodes l[k] := by
  rw [List.take_succ_eq_append_getElem hk, nodesL_append]
  simp [nodesL]
theorem depthL_take_succ {l : List (Rt α)} {k : Nat} (hk : k < l.length) : depthL (l.take (k + 1)) = max (depthL (l.take k)) (depth l[k]) := by
  rw [List.take_succ_eq_append_getElem hk, depthL_append]
  simp [depthL]
theorem nodesL_take_le (l : List (Rt α)) (k : Nat) : nodesL (l.take k) ≤ nodesL l := by
  have := nodesL_append (l.take k) (l.drop k); rw [List.take_append_drop] at this; omega
theorem depthL_le (l : List (Rt α)) : (∀ t, t ∈ l → depth t ≤ nodes t) → depthL l ≤ nodesL l := by
  induction l with
  | nil => intro _; simp [depthL, nodesL]
  | cons t l ih =>
    intro h
    have h1 := h t (by simp)
    have h2 := ih fun u hu => h u (by simp [hu])
    simp only [depthL, nodesL]; omega
theorem depth_le (t : Rt α) : depth t ≤ nodes t := by
  refine ind (P := fun t => depth t ≤ nodes t) (fun a us ih => ?_) t
  have := depthL_le us ih
  simp only [depth, nodes]; omega
theorem length_le (l : List (Rt α)) : l.length ≤ nodesL l := by
  induction l with
  | nil => simp [nodesL]
  | cons t l ih => have := nodes_pos t; simp only [List.length_cons, nodesL]; omega
end Rt
abbrev Srt := Rt Unit
abbrev Tm := Rt (Int × Int)
mutual
def srC : Srt → AV
  | .mk _ us => .rs 1 (srCs us)
def srCs : List Srt → List (List AV)
  | [] => []
  | s :: ss => [srC s] :: srCs ss
end
def sr (s : Srt) : AV := .agg [srC s]
mutual
def tmC : Tm → List AV
  | .mk a us => [I a.1, I a.2, .rs 3 (tmCs us)]
def tmCs : List Tm → List (List AV)
  | [] => []
  | t :: ts => tmC t :: tmCs ts
end
def tm (t : Tm) : AV := .agg (tmC t)
theorem srCs_eq (l : List Srt) : srCs l = l.map fun s => [srC s] := by induction l with | nil => rfl | cons s l ih => simp [srCs, ih]
theorem tmCs_eq (l : List Tm) : tmCs l = l.map tmC := by induction l with | nil => rfl | cons s l ih => simp [tmCs, ih]
@[simp] theorem srCs_len (l : List Srt) : (srCs l).length = l.length := by simp [srCs_eq]
@[simp] theorem tmCs_len (l : List Tm) : (tmCs l).length = l.length := by simp [tmCs_eq]
theorem srCs_get {l : List Srt} {k : Nat} (hk : k < l.length) : (srCs l).getD k [] = [srC l[k]] := by simp [srCs_eq, List.getD_eq_getElem?_getD, hk]
theorem tmCs_get {l : List Tm} {k : Nat} (hk : k < l.length) : (tmCs l).getD k [] = tmC l[k] := by simp [tmCs_eq, List.getD_eq_getElem?_getD, hk]
@[simp] theorem srCs_get' {l : List Srt} {k : Nat} (hk : k < l.length) : (srCs l)[k]?.getD [] = [srC l[k]] := by simp [srCs_eq, hk]
@[simp] theorem tmCs_get' {l : List Tm} {k : Nat} (hk : k < l.length) : (tmCs l)[k]?.getD [] = tmC l[k] := by simp [tmCs_eq, hk]
@[simp] theorem srCs_gE {l : List Srt} {k : Nat} (hk : k < (srCs l).length) : (srCs l)[k] = [srC (l[k]'(by simpa using hk))] := by simp [srCs_eq]
@[simp] theorem tmCs_gE {l : List Tm} {k : Nat} (hk : k < (tmCs l).length) : (tmCs l)[k] = tmC (l[k]'(by simpa using hk)) := by simp [tmCs_eq]
theorem tmC_eq (t : Tm) : tmC t = [I t.lab.1, I t.lab.2, .rs 3 (tmCs t.kids)] := by cases t; rfl
theorem srC_eq (t : Srt) : srC t = .rs 1 (srCs t.kids) := by cases t; rfl
@[simp] theorem tmC_len (t : Tm) : (tmC t).length = 3 := by cases t; rfl
@[simp] theorem tmC_0 (t : Tm) : g (tmC t) 0 = I t.lab.1 := by cases t; rfl
@[simp] theorem tmC_1 (t : Tm) : g (tmC t) 1 = I t.lab.2 := by cases t; rfl
@[simp] theorem tmC_2 (t : Tm) : g (tmC t) 2 = .rs 3 (tmCs t.kids) := by cases t; rfl
theorem tm_eta (t : Tm) : (.agg [I t.lab.1, I t.lab.2, .rs 3 (tmCs t.kids)] : AV) = tm t := by cases t; rfl
theorem Rt.nodes_mem {α : Type} {l : List (Rt α)} {t : Rt α} (ht : t ∈ l) : t.nodes ≤ Rt.nodesL l := by
  induction l with
  | nil => cases ht
  | cons u l ih =>
    simp only [Rt.nodesL]
    rcases List.mem_cons.1 ht with rfl | ht
    · omega
    · have := ih ht; omega
end Am
