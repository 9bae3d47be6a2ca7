/- The plain laws of Free: the variables in order, each once. -/
import Derived.Test.YtoifckjdnldlpaaLk
set_option linter.unusedVariables false
set_option linter.unusedSimpArgs false
namespace Am
open Go Go.Proofs.Try
abbrev SS (l : List Int) : Prop := l.Pairwise (· < ·)
theorem SS.ext {a : List Int} : ∀ {b : List Int}, SS a → SS b → (∀ x, x ∈ a ↔ x ∈ b) → a = b := by
  induction a with
  | nil => intro b _ _ h; cases b with
    | nil => rfl
    | cons y b => exact absurd ((h y).2 (by simp)) (by simp)
  | cons x a ih => intro b ha hb h; cases b with
    | nil => exact absurd ((h x).1 (by simp)) (by simp)
    | cons y b =>
      replace ha := List.pairwise_cons.1 ha
      replace hb := List.pairwise_cons.1 hb
      have hxy : x = y := by
        rcases List.mem_cons.1 ((h x).1 (by simp)) with e | e
        · exact e
        · rcases List.mem_cons.1 ((h y).2 (by simp)) with e' | e'
          · exact e'.symm
          · have := hb.1 x e; have := ha.1 y e'; omega
      subst hxy
      rw [ih ha.2 hb.2 fun z => ?_]
      constructor
      · intro hz
        rcases List.mem_cons.1 ((h z).1 (by simp [hz])) with e | e
        · have := ha.1 z hz; omega
        · exact e
      · intro hz
        rcases List.mem_cons.1 ((h z).2 (by simp [hz])) with e | e
        · have := hb.1 z hz; omega
        · exact e
theorem ins_mem (l : List Int) (n x : Int) : x ∈ ins l n ↔ x ∈ l ∨ x = n := by
  induction l with
  | nil => simp [ins]
  | cons y r ih =>
    simp only [ins]
    split
    · simp only [List.mem_cons, ih, or_assoc]
    split
    · rename_i h; subst h; simp only [List.mem_cons]
      constructor
      · rintro (h | h)
        · exact .inl (.inl h)
        · exact .inl (.inr h)
      · rintro ((h | h) | h)
        · exact .inl h
        · exact .inr h
        · exact .inl h
    · simp only [List.mem_cons]
      constructor
      · rintro (h | h | h)
        · exact .inr h
        · exact .inl (.inl h)
        · exact .inl (.inr h)
      · rintro ((h | h) | h)
        · exact .inr (.inl h)
        · exact .inr (.inr h)
        · exact .inl h
theorem ins_SS {l : List Int} (n : Int) (h : SS l) : SS (ins l n) := by
  induction l with
  | nil => simp [ins, SS]
  | cons y r ih =>
    have h' := List.pairwise_cons.1 h
    simp only [ins]
    split
    · rename_i hy
      refine List.pairwise_cons.2 ⟨fun z hz => ?_, ih h'.2⟩
      rcases (ins_mem r n z).1 hz with e | e
      · exact h'.1 z e
      · omega
    split
    · rename_i e; subst e; exact h
    · refine List.pairwise_cons.2 ⟨fun z hz => ?_, h⟩
      rcases List.mem_cons.1 hz with e | e
      · omega
      · have := h'.1 z e; omega
theorem vars_spec (t : Tm) : ∀ l, SS l → SS (vars t l) ∧ ∀ x, x ∈ vars t l ↔ x ∈ l ∨ x ∈ occ t := by
  refine Rt.ind (P := fun t => ∀ l, SS l → SS (vars t l) ∧ ∀ x, x ∈ vars t l ↔ x ∈ l ∨ x ∈ occ t) (fun a us ih l hl => ?_) t
  have key : ∀ l, SS l → SS (varsL us l) ∧ ∀ x, x ∈ varsL us l ↔ x ∈ l ∨ x ∈ occL us := by
    clear hl l
    induction us with
    | nil => intro l hl; exact ⟨hl, fun x => by simp [varsL, occL]⟩
    | cons u us ih2 =>
      intro l hl
      obtain ⟨h1, h2⟩ := ih u (by simp) l hl
      obtain ⟨h3, h4⟩ := ih2 (fun t ht => ih t (by simp [ht])) _ h1
      exact ⟨h3, fun x => by rw [varsL, h4, h2, occL, List.mem_append, or_assoc]⟩
  simp only [vars, occ]
  by_cases k0 : a.1 = 0
  · simp only [k0, if_true]
    obtain ⟨h1, h2⟩ := key _ (ins_SS a.2 hl)
    refine ⟨h1, fun x => ?_⟩
    rw [h2, ins_mem, List.mem_append, List.mem_singleton]
    constructor
    · rintro ((h | h) | h)
      · exact .inl h
      · exact .inr (.inr h)
      · exact .inr (.inl h)
    · rintro (h | h | h)
      · exact .inl (.inl h)
      · exact .inr h
      · exact .inl (.inr h)
  · simp only [k0, if_false, List.append_nil]
    exact key l hl
theorem cu_spec (d : Array Int) (hd : ∀ i j, i ≤ j → j < d.size → d[i]! ≤ d[j]!) : ∀ m, m ≤ d.size → SS (Lib.compactUpTo d m) ∧ (∀ x, x ∈ Lib.compactUpTo d m ↔ ∃ j, j < m ∧ d[j]! = x) := by
  intro m
  induction m with
  | zero => intro _; exact ⟨by simp [Lib.compactUpTo, SS], fun x => by simp [Lib.compactUpTo]⟩
  | succ m ih =>
    intro hm
    obtain ⟨h1, h2⟩ := ih (by omega)
    rw [Lib.compactUpTo_succ]
    by_cases hk : Lib.keeps d m = true
    · rw [if_pos hk]
      refine ⟨List.pairwise_append.2 ⟨h1, by simp, fun x hx y hy => ?_⟩, fun x => ?_⟩
      · rw [List.mem_singleton] at hy; subst hy
        obtain ⟨j, hj, rfl⟩ := (h2 x).1 hx
        have a := hd j (m - 1) (by omega) (by omega)
        have b := hd (m - 1) m (by omega) (by omega)
        have c : d[m]! ≠ d[m - 1]! := fun e => by rw [Lib.keeps_neg (by omega) e] at hk; cases hk
        omega
      · rw [List.mem_append, h2, List.mem_singleton]
        constructor
        · rintro (⟨j, hj, e⟩ | e)
          · exact ⟨j, by omega, e⟩
          · exact ⟨m, by omega, e.symm⟩
        · rintro ⟨j, hj, e⟩
          by_cases e' : j = m
          · subst e'; exact .inr e.symm
          · exact .inl ⟨j, by omega, e⟩
    · rw [if_neg hk, List.append_nil]
      refine ⟨h1, fun x => ?_⟩
      rw [h2]
      have hm0 : 0 < m := by
        cases m with
        | zero => exact absurd (Lib.keeps_lt_one d 0 (by omega)) hk
        | succ m => omega
      have e0 : d[m]! = d[m - 1]! := Classical.byContradiction fun e => hk (Lib.keeps_pos e)
      constructor
      · rintro ⟨j, hj, e⟩; exact ⟨j, by omega, e⟩
      · rintro ⟨j, hj, e⟩
        by_cases e' : j = m
        · subst e'; exact ⟨j - 1, by omega, by rw [← e0]; exact e⟩
        · exact ⟨j, by omega, e⟩
def fr (l : List Int) : List Int := Lib.compact (l.mergeSort fun x y => decide (x ≤ y))
theorem fr_spec (l : List Int) : SS (fr l) ∧ ∀ x, x ∈ fr l ↔ x ∈ l := by
  have hs : (l.mergeSort fun x y => decide (x ≤ y)).Pairwise fun a b => decide (a ≤ b) = true :=
    List.pairwise_mergeSort (fun a b c h1 h2 => by simp at h1 h2 ⊢; omega) (fun a b => by simp; omega) l
  have hm : ∀ x, x ∈ (l.mergeSort fun x y => decide (x ≤ y)) ↔ x ∈ l := fun x => List.mem_mergeSort
  unfold fr Lib.compact
  generalize (l.mergeSort fun x y => decide (x ≤ y)) = s at hs hm
  have hp := List.pairwise_iff_getElem.1 hs
  obtain ⟨h1, h2⟩ := cu_spec s.toArray (fun i j hij hj => by
    have hj' : j < s.length := by simpa using hj
    by_cases e : i = j
    · subst e; exact Int.le_refl _
    · have := hp i j (by omega) hj' (by omega)
      simpa [getElem!_pos, hj', show i < s.length by omega] using this) s.length (by simp)
  refine ⟨h1, fun x => ?_⟩
  rw [h2, ← hm]
  constructor
  · rintro ⟨j, hj, rfl⟩
    simp [hj]
  · intro hx
    obtain ⟨j, hj, e⟩ := List.getElem_of_mem hx
    exact ⟨j, hj, by simpa [hj] using e⟩
theorem fr_vars (t : Tm) : fr (occ t) = vars t [] := by
  obtain ⟨h1, h2⟩ := fr_spec (occ t)
  obtain ⟨h3, h4⟩ := vars_spec t [] (by simp [SS])
  exact SS.ext h1 h3 fun x => by rw [h2, h4]; simp
/-- The least is negative just if one is. -/
def hdNeg : List Int → Bool
  | [] => false
  | x :: _ => decide (x < 0)
theorem SS.head_neg {l : List Int} (h : SS l) : nng l = !(hdNeg l) := by
  cases l with
  | nil => rfl
  | cons x r =>
    have h' := List.pairwise_cons.1 h
    by_cases hx : x < 0
    · simp [nng, hdNeg, hx]; intro h0; omega
    · have : nng (x :: r) = true := by
        simp only [nng, List.all_cons, Bool.and_eq_true, decide_eq_true_eq, List.all_eq_true]
        exact ⟨by omega, fun z hz => by have := h'.1 z hz; omega⟩
      simp [this, hdNeg, hx]
theorem nng_vars (t : Tm) : nng (vars t []) = nng (occ t) := by
  obtain ⟨h3, h4⟩ := vars_spec t [] (by simp [SS])
  have : ∀ (a b : List Int), (∀ x, x ∈ a ↔ x ∈ b) → nng a = true → nng b = true := fun a b h ha => by
    simp only [nng, List.all_eq_true] at ha ⊢
    exact fun x hx => ha x ((h x).2 hx)
  have e : ∀ x, x ∈ vars t [] ↔ x ∈ occ t := fun x => by rw [h4]; simp
  cases h5 : nng (occ t) with
  | true => exact this _ _ (fun x => (e x).symm) h5
  | false => cases h6 : nng (vars t []) with
    | false => rfl
    | true => rw [this _ _ e h6] at h5; cases h5
end Am
