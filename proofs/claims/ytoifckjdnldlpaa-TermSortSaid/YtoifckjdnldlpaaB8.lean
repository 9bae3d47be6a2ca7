/- Every operation keeps the state; the operations of a region in their order. -/
import Derived.Test.YtoifckjdnldlpaaBA
set_option linter.unusedVariables false
set_option linter.unusedSimpArgs false
namespace Am
open Go
section
variable {P : Program} {cf : Cfg} {fz : Fz} {b : Base} {env : Env} {loc : Loc} {h : Heap} {a : Act} {w : World} {C : Cx} {β : Nat → Option Nat} {k : K} {o : Oper} {Q : Exit → Act → World → Prop}
theorem op_sound (HT : TabOk P cf) (H : SR b env loc h a w C β) (hfz : FzOk fz env) (hty : opTy cf o = true) (hk : aop P cf fz o env loc h k) : Oper.wp P o a w (Next b fz env loc k) Q := by
  have no : ∀ {p : Prop}, FF → p := fun h => (show False from h).elim
  cases hop : o.op with
  | move x => exact op_move H (.inl hop) (by simpa only [aop, hop] using hk)
  | assign x => exact op_move H (.inr hop) (by simpa only [aop, hop] using hk)
  | pick c x y => exact op_pick H hop hk
  | box t x => exact op_box HT H hfz hop hty hk
  | alloc t => exact op_alloc HT H hfz hop hty hk
  | load t x => exact op_load HT H hop hty hk
  | store t x v => exact op_store HT H hop hty hk
  | nilCheck x => exact op_nil H hop hk
  | fieldAddr t x f => exact op_field HT H hop hty hk
  | indexAddr t x i => exact op_idx HT H hop hty hk
  | index t x i => exact op_str HT H hop hty hk
  | binOp op t x y u => exact op_bin HT H hop hty hk
  | unOp op t x => cases op <;> first | exact op_not H hop hk | (simp only [aop, hop] at hk; exact no hk)
  | extract x i => exact op_extract H hop hk
  | build t parts => exact op_build HT H hop hty hk
  | buildSlice t n parts => exact op_buildSlice HT H hop hty hk
  | makeSlice t n c => exact op_makeSlice HT H hop hty hk
  | slice t x lo hi mx => exact op_slice HT H hop hty hk
  | convert s t x => exact op_convert HT H hop hty hk
  | makeMap t r => exact op_makeMap H hop hk
  | lookup t m x ok => exact op_lookup HT H hop hty hk
  | mapUpdate t m x v => exact op_mapUpdate HT H hop hty hk
  | mapEntry t m x => exact op_mapEntry HT H hop hty hk
  | entryStore t m x v => exact op_entryStore HT H hop hty hk
  | range t m => exact op_range HT H hop hty hk
  | next it str => exact op_next H hop hk
  | entry it => exact op_entry H hop hk
  | makeFunc f first caps => cases f <;> first | exact op_makeFunc H hop hk | (simp only [aop, hop] at hk; exact no hk)
  | call c =>
    obtain ⟨callee, args, ts⟩ := c
    cases callee with
    | value x => cases x <;> first | exact op_callF H hop hk | exact op_callV H hop hk | (simp only [aop, hop] at hk; exact no hk)
    | builtin bi => cases bi <;> first | exact op_len HT H hop hty hk | exact op_append HT H hop hty hk | exact op_max H hop hk | exact op_min H hop hk | (simp only [aop, hop] at hk; exact no hk)
    | invoke r n => simp only [aop, hop] at hk; exact no hk
  | _ => simp only [aop, hop] at hk; exact no hk
end
end Am
