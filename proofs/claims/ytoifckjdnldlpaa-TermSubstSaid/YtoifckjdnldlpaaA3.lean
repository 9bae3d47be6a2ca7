/- The words in continuation form say what the plain ones say. -/
import Derived.Test.YtoifckjdnldlpaaA2
set_option linter.unusedVariables false
set_option linter.unusedSimpArgs false
namespace Am
open Go

theorem FF_eq : FF = False := rfl
theorem up_eq {α : Sort _} (a : α) : up a = a := rfl
theorem DD_eq : DD = TV.dead := rfl

theorem setK_eq {α : Type} : ∀ (l : List α) (n : Nat) (v : α) (k : List α → Prop), setK l n v k = k (l.set n v)
  | [], _, _, _ => rfl
  | _ :: _, 0, _, _ => rfl
  | x :: xs, n + 1, v, k => setK_eq xs n v fun ys => k (x :: ys)
theorem takeK_elim {α : Type} : ∀ {l : List α} {n : Nat} {k : List α → Prop}, takeK l n k → n ≤ l.length ∧ k (l.take n)
  | l, 0, k, h => ⟨Nat.zero_le _, by cases l <;> exact h⟩
  | x :: xs, n + 1, k, h => by
    have := takeK_elim (l := xs) (n := n) h
    exact ⟨by simp; omega, by simpa using this.2⟩
  | [], n + 1, k, h => (show False from h).elim
theorem exactK_elim {α : Type} : ∀ {l : List α} {n : Nat} {k : List α → Prop}, exactK l n k → l.length = n ∧ k l
  | [], 0, k, h => ⟨rfl, h⟩
  | x :: xs, n + 1, k, h => by
    have := exactK_elim (l := xs) (n := n) h
    exact ⟨by simp [this.1], this.2⟩
  | [], n + 1, k, h => (show False from h).elim
  | _ :: _, 0, k, h => (show False from h).elim
theorem nth_eq : ∀ (l : List TV) (n : Nat), nth l n = l.getD n .dead
  | [], _ => rfl
  | x :: xs, 0 => rfl
  | x :: xs, n + 1 => (nth_eq xs n).trans (by simp)
theorem nth_set (l : List TV) (n m : Nat) (v : TV) : nth (l.set n v) m = if n = m ∧ m < l.length then v else nth l m := by
  simp only [nth_eq, List.getD_eq_getElem?_getD]
  by_cases h : n = m
  · subst h
    by_cases h2 : n < l.length
    · simp [h2, List.getElem?_set_self h2]
    · simp [h2, List.getElem?_eq_none (Nat.le_of_not_lt h2), List.set_eq_of_length_le (Nat.le_of_not_lt h2)]
  · simp [h, List.getElem?_set_ne h]
theorem nbeq {a b : Nat} : Nat.beq a b = true ↔ a = b := ⟨Nat.eq_of_beq_eq_true, fun h => by subst h; simp⟩
theorem nbeq_f {a b : Nat} (h : Nat.beq a b = false) : a ≠ b := fun e => by subst e; simp at h
theorem nmem_eq : ∀ (l : List Nat) (y : Nat), nmem l y = true ↔ y ∈ l
  | [], y => by simp [nmem]
  | x :: xs, y => by
    have ih := nmem_eq xs y
    show (match Nat.beq x y with | true => true | false => nmem xs y) = true ↔ _
    cases h : Nat.beq x y with
    | true => simp [nbeq.1 h]
    | false =>
      have := nbeq_f h
      simp only [ih, List.mem_cons]
      exact ⟨.inr, fun h => h.resolve_left (fun e => this e.symm)⟩
theorem lkp_nil (u : Nat) : lkp [] u = none := rfl
theorem lkp_cons (x : Nat × List AV) (l : Loc) (u : Nat) : lkp (x :: l) u = if x.1 = u then some x.2 else lkp l u := by
  show (match Nat.beq x.1 u with | true => some x.2 | false => lkp l u) = _
  cases h : Nat.beq x.1 u with
  | true => simp [nbeq.1 h]
  | false => simp [nbeq_f h]
def lset : Loc → Nat → List AV → Loc
  | [], u, cs => [(u, cs)]
  | (t, ds) :: r, u, cs => if t = u then (t, cs) :: r else (t, ds) :: lset r u cs
theorem lsetK_eq : ∀ (l : Loc) (u : Nat) (cs : List AV) (k : Loc → Prop), lsetK l u cs k = k (lset l u cs)
  | [], _, _, _ => rfl
  | (t, ds) :: r, u, cs, k => by
    simp only [lsetK, lset]
    cases h : Nat.beq t u with
    | true => simp [nbeq.1 h]
    | false => simp [nbeq_f h, lsetK_eq r u cs]
theorem lkp_lset : ∀ (l : Loc) (u v : Nat) (cs : List AV), lkp (lset l u cs) v = if u = v then some cs else lkp l v
  | [], u, v, cs => by simp [lset, lkp_cons, lkp_nil]
  | (t, ds) :: r, u, v, cs => by
    simp only [lset]
    by_cases h : t = u
    · subst h
      by_cases h2 : t = v <;> simp [lkp_cons, h2]
    · simp only [h, if_false, lkp_cons, lkp_lset r u v cs]
      by_cases h2 : t = v
      · subst h2; simp [Ne.symm h]
      · simp [h2]
theorem spliceK_eq : ∀ (xs cs : List AV) (off : Nat) (k : List AV → Prop), spliceK cs off xs k = k (splice cs off xs)
  | [], cs, off, k => rfl
  | x :: xs, cs, off, k => by
    simp only [spliceK, setK_eq, splice]
    exact spliceK_eq xs _ _ k
theorem splice_length : ∀ (xs cs : List AV) (off : Nat), (splice cs off xs).length = cs.length
  | [], cs, off => rfl
  | x :: xs, cs, off => by simp [splice, splice_length xs]
theorem g_set (cs : List AV) (i j : Nat) (v : AV) (hi : i < cs.length) : g (cs.set i v) j = if j = i then v else g cs j := by
  unfold g
  simp only [List.getD_eq_getElem?_getD]
  by_cases h : j = i
  · subst h; simp [List.getElem?_set_self hi]
  · simp [h, List.getElem?_set_ne (Ne.symm h)]
theorem g_splice : ∀ (xs cs : List AV) (off j : Nat), off + xs.length ≤ cs.length → g (splice cs off xs) j = if off ≤ j ∧ j < off + xs.length then g xs (j - off) else g cs j
  | [], cs, off, j, h => by simp [splice]; omega
  | x :: xs, cs, off, j, h => by
    simp only [List.length_cons] at h
    rw [splice, g_splice xs _ _ _ (by simp; omega), g_set _ _ _ _ (by omega)]
    by_cases h1 : j = off
    · subst h1
      rw [if_neg (by omega), if_pos rfl, if_pos (by simp)]; simp [g]
    · by_cases h2 : off + 1 ≤ j ∧ j < off + 1 + xs.length
      · have : j - off = (j - (off + 1)) + 1 := by omega
        simp only [h2, List.length_cons, and_self, if_true]
        rw [if_pos (by omega), this]; simp [g]
      · rw [if_neg h2, if_neg h1, if_neg (by simp; omega)]
def kill1 (t : Nat) : TV → TV
  | .loc u o => if u = t then .dead else .loc u o
  | x => x
theorem killK_eq : ∀ (l : List TV) (t : Nat) (k : List TV → Prop), killK l t k = k (l.map (kill1 t))
  | [], _, _ => rfl
  | x :: xs, t, k => by
    simp only [killK, killK_eq xs t, List.map_cons]
    cases x with
    | loc u o =>
      simp only [kill1]
      cases h : Nat.beq u t with
      | true => simp [nbeq.1 h]
      | false => simp [nbeq_f h]
    | _ => rfl
theorem nth_map_kill (l : List TV) (t n : Nat) : nth (l.map (kill1 t)) n = kill1 t (nth l n) := by
  simp only [nth_eq, List.getD_eq_getElem?_getD, List.getElem?_map]
  cases l[n]? <;> simp [kill1]
theorem gets_length (cs : List AV) : ∀ (n j : Nat), (gets cs j n).length = n
  | 0, j => rfl
  | n + 1, j => by simp [gets, gets_length cs n]
theorem g_gets (cs : List AV) : ∀ (n j i : Nat), i < n → g (gets cs j n) i = g cs (j + i)
  | n + 1, j, 0, h => by simp [gets, g]
  | n + 1, j, i + 1, h => by
    have := g_gets cs n (j + 1) i (by omega)
    simp only [g, gets, List.getD_cons_succ] at this ⊢
    rw [this]; congr 1; omega
theorem killsK_eq : ∀ (ts : List Nat) (env : Env) (k : Env → Prop), killsK env ts k = k (ts.foldl (fun e t => e.set t .dead) env)
  | [], env, k => rfl
  | t :: ts, env, k => by simp only [killsK, setK_eq, List.foldl_cons]; exact killsK_eq ts _ k
theorem keysK_eq : ∀ (l : Loc) (a : List Nat) (k : List Nat → Prop), ∃ b, keysK l a k = k b ∧ ∀ t, t ∈ b ↔ t ∈ a ∨ (lkp l t).isSome
  | [], a, k => ⟨a, rfl, fun t => by simp [lkp_nil]⟩
  | (u, cs) :: r, a, k => by
    obtain ⟨b, h1, h2⟩ := keysK_eq r (u :: a) k
    refine ⟨b, h1, fun t => ?_⟩
    rw [h2, lkp_cons]
    by_cases h : u = t
    · subst h; simp
    · have h' : t ≠ u := Ne.symm h
      simp [h, h']
theorem restK_eq (ys : List Nat) : ∀ (l : Loc) (a : List Nat) (k : List Nat → Prop), ∃ b, restK ys l a k = k b ∧ ∀ t, t ∈ b ↔ t ∈ a ∨ ((lkp l t).isSome ∧ t ∉ ys)
  | [], a, k => ⟨a, rfl, fun t => by simp [lkp_nil]⟩
  | (u, cs) :: r, a, k => by
    simp only [restK]
    cases hu : nmem ys u with
    | true =>
      obtain ⟨b, h1, h2⟩ := restK_eq ys r a k
      refine ⟨b, h1, fun t => ?_⟩
      rw [h2, lkp_cons]
      have := (nmem_eq ys u).1 hu
      by_cases h : u = t
      · subst h; simp [this]
      · simp [h]
    | false =>
      obtain ⟨b, h1, h2⟩ := restK_eq ys r (u :: a) k
      refine ⟨b, h1, fun t => ?_⟩
      have hu' : u ∉ ys := fun h => by rw [(nmem_eq ys u).2 h] at hu; cases hu
      rw [h2, lkp_cons]
      by_cases h : u = t
      · subst h; simp [hu']
      · have h' : t ≠ u := Ne.symm h
        simp [h, h']
theorem mays_mem : ∀ {l : Option (List Nat)} {ys : List Nat}, mays l ys = true → ∀ y ∈ ys, may l y = true
  | l, [], _, y, h => by cases h
  | l, x :: xs, hm, y, h => by
    have hm' : (match may l x with | true => mays l xs | false => false) = true := hm
    cases hx : may l x with
    | false => rw [hx] at hm'; cases hm'
    | true =>
      rw [hx] at hm'
      rcases List.mem_cons.1 h with rfl | h
      · exact hx
      · exact mays_mem hm' y h
theorem fixA_elim {x : AV} {k : Prop} (h : fixA x k) : k := by
  unfold fixA at h
  split at h <;> first | exact h | exact h.elim
theorem drK_elim {fz : Fz} {own : List Nat} {dst : Option Tmp} {p : AV} {k : Prop} (h : drK fz own dst p k) : k := by
  unfold drK at h
  split at h
  · exact h
  · split at h
    · exact h
    · exact fixA_elim h
theorem varC_elim {fz : Fz} {env : Env} {loc : Loc} {dst : Option Tmp} {k : Prop} (h : varC fz env loc dst k) : k := by
  unfold varC at h
  split at h
  · exact h
  · split at h
    · exact h.elim
    · split at h
      · exact h.elim
      · split at h
        · exact h.elim
        · exact h
/-- A temporary as a value. -/
def asV : TV → Option AV
  | .av v => some v
  | .ag cs => some (.agg cs)
  | .bl b => some (B b)
  | _ => none
theorem asAV_elim {x : TV} {k : AV → Prop} (h : asAV x k) : ∃ v, asV x = some v ∧ k v := by
  cases x <;> first | exact ⟨_, rfl, h⟩ | exact (show False from h).elim
theorem asAVs_elim : ∀ {xs : List TV} {k : List AV → Prop}, asAVs xs k → ∃ vs, vs.length = xs.length ∧ (∀ j, j < xs.length → asV (nth xs j) = some (g vs j)) ∧ k vs
  | [], k, h => ⟨[], rfl, by simp, h⟩
  | x :: xs, k, h => by
    obtain ⟨v, h1, h2⟩ := asAV_elim h
    obtain ⟨vs, h3, h4, h5⟩ := asAVs_elim h2
    refine ⟨v :: vs, by simp [h3], fun j hj => ?_, h5⟩
    cases j with
    | zero => exact h1
    | succ j => exact h4 j (by simpa using hj)
end Am
