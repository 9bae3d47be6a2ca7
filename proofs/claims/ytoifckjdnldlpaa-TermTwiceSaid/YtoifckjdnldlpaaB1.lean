/- Literals, slices, appends. -/
import Derived.Test.YtoifckjdnldlpaaA9
set_option linter.unusedVariables false
set_option linter.unusedSimpArgs false
namespace Am
open Go
section
variable {P : Program} {cf : Cfg} {fz : Fz} {b : Base} {env : Env} {loc : Loc} {h : Heap} {a : Act} {w : World} {C : Cx} {β : Nat → Option Nat} {k : K} {o : Oper} {Q : Exit → Act → World → Prop}
theorem op_len (HT : TabOk P cf) (H : SR b env loc h a w C β) {args : Array Operand} {ts : Array TypeId} (ho : o.op = .call { callee := .builtin .len, args := args, argTypes := ts }) (hty : opTy cf o = true)
    (hk : aop P cf fz o env loc h k) : Oper.wp P o a w (Next b fz env loc k) Q := by
  simp only [opTy, ho] at hty
  simp only [aop, ho] at hk
  split at hk
  case h_2 => exact (show False from hk).elim
  rename_i x t hargs hts
  rw [hts] at hty
  simp only at hty
  split at hty
  case h_2 => cases hty
  rename_i hpos
  obtain ⟨i, z, d, F⟩ := tyCheck_f (HT.2 t hpos)
  have ha : args = #[x] := by apply Array.ext'; simpa using hargs
  have h1 : ts[0]? = some t := by have : ts = #[t] := by apply Array.ext'; simpa using hts
                                  simp [this]
  have run : ∀ n : Nat, (Builtin.len_ ts o.type #[a.eval x]).run P w = .ok (goInt n) w → (execOp a.eval o).run P w = .ok (.value (.int .i64 n)) w := by
    intro n hn
    simp [execOp, ho, resolve, invoke, builtin, ha, hn, goInt]
  split at hk
  · rename_i hkd
    have h2 := F.str hkd
    obtain ⟨xv, hx, hk⟩ := asAV_rep H hk
    obtain ⟨s, rfl, hk⟩ := lenS_elim hk
    have hv := rep_val hx
    refine wp_same H (run s.size ?_) (y := .av _) (.val rfl) av_lkey hk
    simp [Builtin.len_, h1, hv, run_underlying h2, goInt]
  · rename_i kk ee hkd
    have h2 := F.map hkd
    obtain ⟨xv, hx, hk⟩ := asAV_rep H hk
    obtain ⟨id, es, rfl, hh, hk⟩ := lenM_elim hk
    obtain ⟨ow, h4, h5, ms, h6, h7, h8⟩ := H.ev.rel.own id _ hh
    generalize hv : a.eval x = va at hx
    cases hx with
    | mp hm =>
      rw [h4] at hm; cases hm
      refine wp_same H (run es.length ?_) (y := .av _) (.val rfl) av_lkey hk
      simp [Builtin.len_, h1, hv, run_underlying h2, goInt, getObj, Sem.run, h6, h7]
  · rename_i hkd
    rw [hkd] at hty
    have h2 := F.slice HT hty
    obtain ⟨xv, hx, hk⟩ := asAV_rep H hk
    generalize hv : a.eval x = va at hx
    rcases lenA_elim hk with ⟨sz, els, rfl, hk⟩ | ⟨id, len, rfl, hk⟩ | ⟨rfl, hk⟩
    · cases hx with
      | rs0 =>
        refine wp_same H (run 0 ?_) (y := .av _) (.val rfl) av_lkey hk
        simp [Builtin.len_, h1, hv, run_underlying h2, goInt]
      | rs vs him hcap hsz hc hr =>
        refine wp_same H (run els.length ?_) (y := .av _) (.val rfl) av_lkey hk
        simp [Builtin.len_, h1, hv, run_underlying h2, goInt]
    · cases hx with
      | os hm hl hn =>
        refine wp_same H (run len ?_) (y := .av _) (.val rfl) av_lkey hk
        simp [Builtin.len_, h1, hv, run_underlying h2, goInt]
    · cases hx with
      | e0 =>
        refine wp_same H (run 0 ?_) (y := .av _) (.val rfl) av_lkey hk
        simp [Builtin.len_, h1, hv, run_underlying h2, goInt]
  · exact (show False from hk).elim
theorem max_elim {x y : AV} {k : AV → Prop} (hk : maxA x y k) : ∃ m n, x = I m ∧ y = I n ∧ k (I (if n > m then n else m)) := by
  unfold maxA at hk
  split at hk
  · exact ⟨_, _, rfl, rfl, hk⟩
  · cases hk
theorem min_elim {x y : AV} {k : AV → Prop} (hk : minA x y k) : ∃ m n, x = I m ∧ y = I n ∧ k (I (if n < m then n else m)) := by
  unfold minA at hk
  split at hk
  · exact ⟨_, _, rfl, rfl, hk⟩
  · cases hk
theorem op_max (H : SR b env loc h a w C β) {args : Array Operand} {ts : Array TypeId} (ho : o.op = .call { callee := .builtin .max, args := args, argTypes := ts }) (hk : aop P cf fz o env loc h k) : Oper.wp P o a w (Next b fz env loc k) Q := by
  simp only [aop, ho] at hk
  split at hk
  case h_2 => exact (show False from hk).elim
  rename_i x y hargs
  have ha : args = #[x, y] := by apply Array.ext'; simpa using hargs
  obtain ⟨xv, hx, hk⟩ := asAV_rep H hk
  obtain ⟨yv, hy, hk⟩ := asAV_rep H hk
  obtain ⟨m, n, rfl, rfl, hk⟩ := max_elim hk
  have h1 := rep_val hx
  have h2 := rep_val hy
  refine wp_same H (v := .int .i64 (if n > m then n else m)) ?_ (y := .av _) (.val rfl) av_lkey hk
  simp [execOp, ho, resolve, invoke, builtin, ha, h1, h2, Builtin.max_, Builtin.max2]
theorem op_min (H : SR b env loc h a w C β) {args : Array Operand} {ts : Array TypeId} (ho : o.op = .call { callee := .builtin .min, args := args, argTypes := ts }) (hk : aop P cf fz o env loc h k) : Oper.wp P o a w (Next b fz env loc k) Q := by
  simp only [aop, ho] at hk
  split at hk
  case h_2 => exact (show False from hk).elim
  rename_i x y hargs
  have ha : args = #[x, y] := by apply Array.ext'; simpa using hargs
  obtain ⟨xv, hx, hk⟩ := asAV_rep H hk
  obtain ⟨yv, hy, hk⟩ := asAV_rep H hk
  obtain ⟨m, n, rfl, rfl, hk⟩ := min_elim hk
  have h1 := rep_val hx
  have h2 := rep_val hy
  refine wp_same H (v := .int .i64 (if n < m then n else m)) ?_ (y := .av _) (.val rfl) av_lkey hk
  simp [execOp, ho, resolve, invoke, builtin, ha, h1, h2, Builtin.min_, Builtin.min2]
end
end Am
