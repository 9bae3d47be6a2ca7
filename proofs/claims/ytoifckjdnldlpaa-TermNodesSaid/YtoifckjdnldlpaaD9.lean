/- An operation pulled ahead of those before it. -/
import Derived.Test.YtoifckjdnldlpaaD8
set_option linter.unusedVariables false
set_option linter.unusedSimpArgs false
namespace Am
open Go
def notIn (d : Option Tmp) (l : List Operand) : Bool := match d with
  | none => true
  | some d => l.all fun x => match x with
    | .tmp t => !Nat.beq t d
    | _ => true
def notDst (d d' : Option Tmp) : Bool := match d, d' with
  | some a, some b => !Nat.beq a b
  | _, _ => true
/-- i may go ahead of j. -/
noncomputable def pairOk (cf : Cfg) (ops : Array Oper) (j i : Oper) : Bool :=
  (!isL cf i) && notIn j.dst (looks ops i) && notIn i.dst (looks ops j) && notDst j.dst i.dst &&
  bif isL cf j then j.guard.isNone && !isStore i
  else like cf j && (like cf i || !reads j || (!isStore i && !nmem cf.own (j.dst.getD 0)))
theorem notIn_eq {d : Option Tmp} {l : List Operand} (h : notIn d l = true) : ∀ a, d = some a → ∀ x, x ∈ l → x ≠ .tmp a := by
  rintro a rfl x hx rfl
  have := List.all_eq_true.1 h _ hx
  simp at this
theorem notDst_eq {d d' : Option Tmp} (h : notDst d d' = true) : ∀ a, d = some a → d' ≠ some a := by
  rintro a rfl e
  subst e
  simp [notDst] at h
section
variable {P : Program} {cf : Cfg} {fz : Fz} {env : Env} {loc : Loc} {h : Heap} {ops : Array Oper} {k : K}
theorem pair_exch (hd : fz.d = true) {i j : Oper} (hp : pairOk cf ops j i = true) (hk : awpOne P cf fz ops j (awpOne P cf fz ops i k) env loc h) : awpOne P cf fz ops i (awpOne P cf fz ops j k) env loc h := by
  simp only [pairOk, Bool.and_eq_true, Bool.not_eq_true', Bool.cond_eq_ite] at hp
  obtain ⟨⟨⟨⟨h1, h2⟩, h3⟩, h4⟩, h5⟩ := hp
  split at h5
  · rename_i hL
    simp only [Bool.and_eq_true, Bool.not_eq_true', Option.isNone_iff_eq_none] at h5
    have h3' : looks ops j = opnds j := by unfold looks; rw [h5.1]
    exact exchL hd hL h5.1 h1 h5.2 (notIn_eq h2) (by rw [← h3']; exact notIn_eq h3) (notDst_eq h4) hk
  · rename_i hL
    simp only [Bool.and_eq_true, Bool.or_eq_true, Bool.not_eq_true'] at h5
    refine exch hd (by simpa using hL) h1 h5.1 (notIn_eq h2) (notIn_eq h3) (notDst_eq h4) ?_ hk
    rcases h5.2 with (h | h) | h
    · exact .inl h
    · exact .inr fun hr => by rw [h] at hr; cases hr
    · exact .inr fun _ => h
theorem pair_mono (hd : fz.d = true) {i j : Oper} (hp : pairOk cf ops j i = true) {k' : K} (hi : ∀ env loc h, k env loc h → k' env loc h) (hk : awpOne P cf fz ops j k env loc h) : awpOne P cf fz ops j k' env loc h := by
  simp only [pairOk, Bool.and_eq_true, Bool.not_eq_true', Bool.cond_eq_ite] at hp
  obtain ⟨⟨⟨⟨h1, h2⟩, h3⟩, h4⟩, h5⟩ := hp
  split at h5
  · rename_i hL
    simp only [Bool.and_eq_true, Bool.not_eq_true', Option.isNone_iff_eq_none] at h5
    obtain ⟨d, cs, a1, a2, a3, hy, hback⟩ := L_elim hd hL h5.1 hk
    exact hback env loc h k' (fun _ _ => rfl) a2 a3 (hi _ _ _ hy)
  · rename_i hL
    rw [one_semG hd (by simpa using hL)] at hk ⊢
    refine semG_mono (fun y loc h hk => ?_) hk
    obtain ⟨hk, hm⟩ := putK_elim hk
    exact putK_intro hm (hi _ _ _ hk)
/-- Pulled ahead of all before it. -/
theorem pull (hd : fz.d = true) {i : Oper} {r2 : List Oper} : ∀ {r1 : List Oper} {env : Env} {loc : Loc} {h : Heap}, (∀ j, j ∈ r1 → pairOk cf ops j i = true) →
    awpOps P cf fz ops (r1 ++ i :: r2) k env loc h → awpOne P cf fz ops i (awpOps P cf fz ops (r1 ++ r2) k) env loc h
  | [], env, loc, h, hp, hk => hk
  | j :: r, env, loc, h, hp, hk => by
    have hk1 : awpOne P cf fz ops j (awpOps P cf fz ops (r ++ i :: r2) k) env loc h := hk
    exact pair_exch hd (hp j (by simp)) (pair_mono hd (hp j (by simp)) (fun env loc h => pull hd (fun j hj => hp j (by simp [hj]))) hk1)
end
end Am
