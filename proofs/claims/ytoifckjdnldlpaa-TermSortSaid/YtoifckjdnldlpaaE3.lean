/- A function's contract, by one check of its body. -/
import Derived.Test.YtoifckjdnldlpaaE2
set_option linter.unusedVariables false
set_option linter.unusedSimpArgs false
namespace Am
open Go
noncomputable def regB (cf : Cfg) : Code → Bool
  | .region id ops true => match annO cf.draws id with
    | some ord => drawOk cf ops ord
    | none => false
  | .seq a b => regB cf a && regB cf b
  | .cond _ a b => regB cf a && regB cf b
  | .block _ c => regB cf c
  | .loop c => regB cf c
  | _ => true
theorem regB_ok {P : Program} {cf : Cfg} (HT : TabOk P cf) : ∀ (c : Code), regB cf c = true → RegOk P cf c := by
  intro c
  induction c with
  | region id ops dr =>
    cases dr with
    | false => exact fun _ => trivial
    | true =>
      intro h
      have h' : (match annO cf.draws id with | some ord => drawOk cf ops ord | none => false) = true := h
      split at h'
      · rename_i ord ho
        have hd : DrawnOk P cf id ops := @drawn_ok P cf ops ord HT id ho h'
        exact @hd
      · cases h'
  | seq a b iha ihb =>
    intro h
    have h' : (regB cf a && regB cf b) = true := h
    simp only [Bool.and_eq_true] at h'
    exact ⟨iha h'.1, ihb h'.2⟩
  | cond c a b iha ihb =>
    intro h
    have h' : (regB cf a && regB cf b) = true := h
    simp only [Bool.and_eq_true] at h'
    exact ⟨iha h'.1, ihb h'.2⟩
  | block id c ih => exact fun h => ih h
  | loop c ih => exact fun h => ih h
  | _ => exact fun _ => trivial
/-- What is checked of a function, once. -/
noncomputable def fnB (cf : Cfg) (fn : Func) : Bool := match fn.body with
  | some c => regB cf c && resTy cf fn.results.toList && !(fn.name == "runtime.NumGoroutine")
  | none => false
theorem contract {P : Program} {cf : Cfg} (HT : TabOk P cf) (hm : P.follows .mixedOrders = true) {f : FuncId} {fn : Func} {args : List AV} {h : Heap} {Q : AV → Heap → Prop} (hf : P.funcs[f]? = some fn) (hc : fnB cf fn = true)
    (hk : abody P cf fn args h Q) : ACalls P f args h Q := by
  unfold fnB at hc
  split at hc
  · rename_i c hb
    simp only [Bool.and_eq_true, Bool.not_eq_true'] at hc
    exact acalls HT hm hf hb hc.2 (regB_ok HT c hc.1.1) hc.1.2 hk
  · cases hc
end Am
