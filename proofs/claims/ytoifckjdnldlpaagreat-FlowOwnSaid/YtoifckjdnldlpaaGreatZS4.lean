/- Places in order. -/
import Derived.Test.YtoifckjdnldlpaaGreatZFb
set_option linter.unusedVariables false
set_option linter.unusedSimpArgs false
namespace Am
open Go
def leP (a b : Pc) : Bool := decide (a.1 < b.1 ∨ (a.1 = b.1 ∧ a.2 ≤ b.2))
def srtP (l : List Pc) : List Pc := l.mergeSort leP
theorem leP_trans (a b c : Pc) (h1 : leP a b = true) (h2 : leP b c = true) : leP a c = true := by
  simp only [leP, decide_eq_true_eq] at *; omega
theorem leP_total (a b : Pc) : (leP a b || leP b a) = true := by
  simp only [leP, Bool.or_eq_true, decide_eq_true_eq]; omega
theorem leP_anti (a b : Pc) (h1 : leP a b = true) (h2 : leP b a = true) : a = b := by
  simp only [leP, decide_eq_true_eq] at *
  exact Prod.ext (by omega) (by omega)
@[simp] theorem srtP_mem {l : List Pc} {p : Pc} : p ∈ srtP l ↔ p ∈ l := List.mem_mergeSort
theorem srtP_isPerm (l : List Pc) : (srtP l).Perm l := List.mergeSort_perm l leP
theorem srtP_pw (l : List Pc) : (srtP l).Pairwise fun a b => leP a b = true := List.pairwise_mergeSort (fun a b c => leP_trans a b c) (fun a b => leP_total a b) l
theorem srtP_uniq {l r : List Pc} (hp : r.Perm l) (hr : r.Pairwise fun a b => leP a b = true) : r = srtP l :=
  List.Perm.eq_of_pairwise (le := fun a b => leP a b = true) (fun a b _ _ h1 h2 => leP_anti a b h1 h2) hr (srtP_pw l) (hp.trans (srtP_isPerm l).symm)
theorem srtP_perm {l l' : List Pc} (h : l.Perm l') : srtP l = srtP l' := srtP_uniq ((srtP_isPerm l).trans h) (srtP_pw l)
theorem srtP_len (l : List Pc) : (srtP l).length = l.length := (srtP_isPerm l).length_eq
end Am
