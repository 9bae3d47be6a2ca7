/- The operations of a region, in the order of its text. -/
import Derived.Test.YtoifckjdnldlpaaB8
set_option linter.unusedVariables false
set_option linter.unusedSimpArgs false
namespace Am
open Go
section
variable {P : Program} {cf : Cfg} {fz : Fz} {b : Base} {env : Env} {loc : Loc} {h : Heap} {a : Act} {w : World} {C : Cx} {β : Nat → Option Nat} {k : K} {o : Oper} {Q : Exit → Act → World → Prop}
theorem Next.kept {env1 : Env} {loc1 : Loc} (hk : Kept fz env env1 loc loc1) (hn : Next b fz env1 loc1 k a w) : Next b fz env loc k a w := by
  obtain ⟨env', loc', h', C', β', H, K', hq⟩ := hn
  exact ⟨env', loc', h', C', β', H, hk.trans K', hq⟩
theorem Next.mono {k' : K} (hi : ∀ env loc h, k env loc h → k' env loc h) (hn : Next b fz env loc k a w) : Next b fz env loc k' a w := by
  obtain ⟨env', loc', h', C', β', H, K', hq⟩ := hn
  exact ⟨env', loc', h', C', β', H, K', hi _ _ _ hq⟩
/-- One operation of a region: its types are in the table; its guard. -/
def awpOne (P : Program) (cf : Cfg) (fz : Fz) (ops : Array Oper) (o : Oper) (ih : K) : K := fun env loc h => match opTy cf o with
    | false => FF
    | true => match o.guard with
      | none => aop P cf fz o env loc h ih
      | some (j, want) => match dstOf ops j with
        | none => FF
        | some t => grdK fz env t want (fun env => aop P cf fz o env loc h ih) (fun env => putK fz env o.dst .und fun env => ih env loc h)
theorem awpOps_nil {ops : Array Oper} : awpOps P cf fz ops [] k = k := rfl
theorem awpOps_cons {ops : Array Oper} {l : List Oper} : awpOps P cf fz ops (o :: l) k = awpOne P cf fz ops o (awpOps P cf fz ops l k) := rfl
/-- A temporary's guise may change, if it tells the same value. -/
theorem SR.retell (H : SR b env loc h a w C β) {t : Nat} {y : TV} (ht : may fz.t t = true) (hy : TRep w C β y (a.tmps.getD t undef)) (hl : ∀ u off, y ≠ .loc u off) :
    SR b (env.set t y) loc h a w C β ∧ Kept fz env (env.set t y) loc loc := by
  refine ⟨⟨H.dfr, by simp [H.len], fun s hs => ?_, fun s u off he => ?_, H.ev, H.vars, H.linj⟩, ⟨by simp, fun s hs => ?_, fun _ _ => rfl, fun _ h => h, fun t cs _ h => ⟨cs, h, rfl⟩⟩⟩
  · rw [nth_set]
    split
    · rename_i e; rw [← e.1]; exact hy
    · exact H.tmp s (by simpa using hs)
  · rw [nth_set] at he
    split at he
    · exact (hl u off he).elim
    · exact H.lkey s u off he
  · rw [nth_set, if_neg (fun e => by rw [e.1, hs] at ht; cases ht)]
theorem grdK_elim (H : SR b env loc h a w C β) {t : Nat} {want : Bool} {yes no : Env → Prop} (hk : grdK fz env t want yes no) :
    ∃ env', SR b env' loc h a w C β ∧ Kept fz env env' loc loc ∧ ((a.tmps.getD t undef = .bool want ∧ yes env') ∨ ((∀ x, a.tmps.getD t undef = .bool x → x ≠ want) ∧ no env')) := by
  have hl : ∀ {y : TV}, nth env t = y → y ≠ .dead → t < env.length := fun {y} hy hd => by
    by_cases ht : t < env.length
    · exact ht
    · have : nth env t = .dead := by rw [nth_eq, List.getD_eq_getElem?_getD, List.getElem?_eq_none (Nat.le_of_not_lt ht)]; rfl
      exact (hd (hy.symm.trans this)).elim
  unfold grdK at hk
  split at hk
  · rename_i x he
    have h1 := H.tmp t (hl he (by simp))
    rw [he] at h1
    have h2 : a.tmps.getD t undef = .bool x := h1
    refine ⟨env, H, Kept.refl _ _ _, ?_⟩
    rw [h2]
    split at hk
    · exact .inl ⟨rfl, hk⟩
    · exact .inl ⟨rfl, hk⟩
    · rename_i hne1 hne2
      refine .inr ⟨fun y hy => ?_, hk⟩
      cases hy
      intro e; subst e
      cases x
      · exact hne2 rfl rfl
      · exact hne1 rfl rfl
  · rename_i c he
    split at hk
    · exact (show False from hk).elim
    · rename_i hm
      have h1 := H.tmp t (hl he (by simp))
      rw [he] at h1
      split at hk
      · rcases brA_elim hk h1 with ⟨hv, hk⟩ | ⟨hv, hk⟩
        · rw [setK_eq] at hk
          obtain ⟨H', K'⟩ := H.retell (fz := fz) (y := .bl true) hm hv (by simp)
          refine ⟨_, H', K', ?_⟩
          rw [hv]
          cases want
          · exact .inr ⟨fun y hy => (by cases hy; simp), hk⟩
          · exact .inl ⟨rfl, hk⟩
        · rw [setK_eq] at hk
          obtain ⟨H', K'⟩ := H.retell (fz := fz) (y := .bl false) hm hv (by simp)
          refine ⟨_, H', K', ?_⟩
          rw [hv]
          cases want
          · exact .inl ⟨rfl, hk⟩
          · exact .inr ⟨fun y hy => (by cases hy; simp), hk⟩
      · exact (show False from hk).elim
  · rename_i he
    have h1 := H.tmp t (hl he (by simp))
    rw [he] at h1
    have h2 : a.tmps.getD t undef = undef := h1
    refine ⟨env, H, Kept.refl _ _ _, .inr ⟨fun y hy => ?_, hk⟩⟩
    rw [h2] at hy; cases hy
  · exact (show False from hk).elim
theorem yielded_eq {ops : Array Oper} {tmps : Array Value} {j : Nat} {t : Tmp} (ht : dstOf ops j = some t) {x : Bool} : yielded ops tmps j = some x ↔ tmps.getD t undef = .bool x := by
  have ht' : (ops[j]?).bind (·.dst) = some t := ht
  unfold yielded
  rw [ht']
  simp only [Option.bind_some, Array.getD_eq_getD_getElem?]
  cases hv : tmps[t]? with
  | none => simp [undef]
  | some v => cases v <;> simp
theorem one_sound (HT : TabOk P cf) (H : SR b env loc h a w C β) (hfz : FzOk fz env) {ops : Array Oper} {i : Nat} (hi : ops[i]? = some o) (hk : awpOne P cf fz ops o k env loc h) :
    wpOp P ops Q i (Next b fz env loc k) a w := by
  unfold awpOne at hk
  split at hk
  · exact (show False from hk).elim
  · rename_i hty
    unfold wpOp
    rw [hi]
    simp only
    split at hk
    · rename_i hg
      have : Region.wanted o (yielded ops a.tmps) = true := by simp [Region.wanted, hg]
      rw [if_pos this]
      exact .inl (op_sound HT H hfz hty hk)
    · rename_i j want hg
      split at hk
      · exact (show False from hk).elim
      · rename_i t ht
        obtain ⟨env', H', K', hk' | hk'⟩ := grdK_elim H hk
        · have : Region.wanted o (yielded ops a.tmps) = true := by
            simp only [Region.wanted, hg, beq_iff_eq]
            exact (yielded_eq ht).2 hk'.1
          rw [if_pos this]
          exact .inl (Oper.wp_mono (fun a w hn => Next.kept K' hn) (op_sound HT H' (hfz.kept K') hty hk'.2))
        · have : Region.wanted o (yielded ops a.tmps) = false := by
            simp only [Region.wanted, hg, beq_eq_false_iff_ne]
            intro hy
            exact hk'.1 want ((yielded_eq ht).1 hy) rfl
          rw [this, if_neg (by simp)]
          obtain ⟨env2, H2, K2, hq⟩ := H'.put (y := .und) (v := undef) (show TRep w C β .und undef from rfl) (by simp) hk'.2
          exact ⟨env2, loc, h, C, β, H2, K'.trans K2, hq⟩
theorem ops_sound (HT : TabOk P cf) {ops : Array Oper} : ∀ {l : List Nat} {env : Env} {loc : Loc} {h : Heap} {a : Act} {w : World} {C : Cx} {β : Nat → Option Nat} {k : K} {ol : List Oper},
    (l.length = ol.length ∧ ∀ j, j < l.length → ops[l.getD j 0]? = some (ol.getD j default)) → SR b env loc h a w C β → FzOk fz env → awpOps P cf fz ops ol k env loc h →
    (∀ a w, Next b fz env loc k a w → Q .normal a w) → wpOps P ops Q l a w
  | [], env, loc, h, a, w, C, β, k, ol, hl, H, hfz, hk, hq => by
    have : ol = [] := List.eq_nil_of_length_eq_zero (by simpa using hl.1.symm)
    subst this
    exact hq a w ⟨env, loc, h, C, β, H, Kept.refl _ _ _, hk⟩
  | i :: r, env, loc, h, a, w, C, β, k, ol, hl, H, hfz, hk, hq => by
    cases ol with
    | nil => simp at hl
    | cons o ol =>
      have hi : ops[i]? = some o := hl.2 0 (by simp)
      rw [wpOps_cons]
      rw [awpOps_cons] at hk
      refine wpOp_mono (fun a w hn => ?_) (one_sound HT H hfz hi hk)
      obtain ⟨env', loc', h', C', β', H', K', hk'⟩ := hn
      refine ops_sound HT (l := r) ⟨by simpa using hl.1, fun j hj => ?_⟩ H' (hfz.kept K') hk' (fun a w hn => hq a w (Next.kept K' hn))
      have := hl.2 (j + 1) (by simpa using hj)
      simpa using this
end
end Am
