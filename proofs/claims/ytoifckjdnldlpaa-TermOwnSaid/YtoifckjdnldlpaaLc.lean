/- Contracts: symbols, places. -/
import Derived.Test.YtoifckjdnldlpaaLb
set_option linter.unusedVariables false
set_option linter.unusedSimpArgs false
namespace Am
open Go Go.Proofs.Try
abbrev Sy := ByteArray × Int
def syCs (l : List Sy) : List (List AV) := l.map fun s => [S s.1, I s.2]
@[simp] theorem syCs_len (l : List Sy) : (syCs l).length = l.length := by simp [syCs]
@[simp] theorem syCs_gE {l : List Sy} {k : Nat} (hk : k < (syCs l).length) : (syCs l)[k] = [S (l[k]'(by simpa using hk)).1, I (l[k]'(by simpa using hk)).2] := by simp [syCs]
@[simp] theorem syCs_take (l : List Sy) (k : Nat) : (syCs l).take k = syCs (l.take k) := by simp [syCs]
def inN (n : ByteArray) (seen : List ByteArray) : Bool := seen.any fun m => n.toList == m.toList
def symsB : List Sy → List ByteArray → Bool
  | [], _ => true
  | s :: r, seen => nameB s.1 && !inN s.1 seen && decide (0 ≤ s.2) && decide (s.2 ≤ 4) && symsB r (seen ++ [s.1])
def nmE (seen : List ByteArray) : List (AV × AV) := seen.map fun n => (S n, B true)
theorem find_names (n : ByteArray) : ∀ (seen : List ByteArray) (i : Nat), (inN n seen = false → findA [.str] (S n) (nmE seen) i = some none) ∧ (inN n seen = true → ∃ j, findA [.str] (S n) (nmE seen) i = some (some (i + j)) ∧ j < seen.length)
  | [], i => ⟨fun _ => rfl, fun h => by cases h⟩
  | m :: r, i => by
    obtain ⟨h1, h2⟩ := find_names n r (i + 1)
    have e : findA [.str] (S n) (nmE (m :: r)) i = if (n.toList == m.toList) = true then some (some i) else findA [.str] (S n) (nmE r) (i + 1) := by
      show (match some (n.toList == m.toList) with | some true => some (some i) | some false => findA [.str] (S n) (nmE r) (i + 1) | none => none) = _
      cases n.toList == m.toList <;> rfl
    have ea : inN n (m :: r) = ((n.toList == m.toList) || inN n r) := rfl
    rw [e, ea]
    cases hb : n.toList == m.toList
    · simp only [Bool.false_or, Bool.false_eq_true, if_false]
      refine ⟨h1, fun h => ?_⟩
      obtain ⟨j, a, b⟩ := h2 h
      exact ⟨j + 1, by rw [a]; congr 2; omega, by simp; omega⟩
    · simp only [Bool.true_or, if_true]
      exact ⟨fun h => by simp at h, fun _ => ⟨0, rfl, by simp⟩⟩
theorem look_names {h : Heap} {id : Nat} {seen : List ByteArray} (hh : h id = some (.map (nmE seen))) (n : ByteArray) (k : AV → Prop) (hk : k (B (inN n seen))) : lookA [.str] false (B false) (.mp id) (S n) h k := by
  unfold lookA mapA
  simp only [hh]
  obtain ⟨h1, h2⟩ := find_names n seen 0
  cases hi : inN n seen with
  | false => rw [h1 hi]; rw [hi] at hk; exact hk
  | true =>
    obtain ⟨j, a, b⟩ := h2 hi
    rw [a]
    rw [hi] at hk
    have : eval2 (nmE seen) (0 + j) = B true := by simp [eval2, nmE, List.getD_eq_getElem?_getD, b]
    simp only [Bool.false_eq_true, if_false, this]
    exact hk
theorem upd_names {h : Heap} {id : Nat} {seen : List ByteArray} (hh : h id = some (.map (nmE seen))) (n : ByteArray) (hn : inN n seen = false) (k : Heap → Prop) (hk : k (h.set id (.map (nmE (seen ++ [n]))))) : updA [.str] (.mp id) (S n) (B true) h k := by
  unfold updA mapA
  simp only [hh]
  rw [(find_names n seen 0).1 hn]
  have : nmE (seen ++ [n]) = nmE seen ++ [(S n, B true)] := by simp [nmE]
  rw [this] at hk
  exact hk
theorem symsB_step {l : List Sy} {k : Nat} (hk : k < l.length) : symsB (l.drop k) ((l.map (·.1)).take k) = (nameB l[k].1 && !inN l[k].1 ((l.map (·.1)).take k) && decide (0 ≤ l[k].2) && decide (l[k].2 ≤ 4) && symsB (l.drop (k + 1)) ((l.map (·.1)).take (k + 1))) := by
  have e : (l.map (·.1)).take (k + 1) = (l.map (·.1)).take k ++ [l[k].1] := by rw [List.take_succ_eq_append_getElem (by simpa using hk)]; simp
  rw [List.drop_eq_getElem_cons hk, e]
  simp [symsB]
theorem term_Symbols_c (l : List Sy) (hl : l.length ≤ 1000000000) {h : Heap} {Q : AV → Heap → Prop} (hq : Q (B (symsB l [] && decide (l.length ≤ 24))) h) : ACalls prog n_term_Symbols [.rs 2 (syCs l)] h Q := by
  refine term_Symbols_call ?_
  unfold term_Symbols
  intro id hid
  simp only [w_len_rs, syCs_len]
  have hret : ∀ (v : AV) n, Q v h → retA v (h.set id n) Q := fun v n hv => ⟨[v], h, HRef.drop hid, rfl, fun _ _ => .refl, hv⟩
  refine loop_up l.length (fun k σ h' => σ = [I k] ∧ h' = h.set id (.map (nmE ((l.map (·.1)).take k))) ∧ symsB l [] = symsB (l.drop k) ((l.map (·.1)).take k)) ⟨rfl, by simp [nmE], by simp⟩ (fun k σ' h' ⟨e, _⟩ => by rw [e]; rfl) ?_
  rintro k σ' h' K hk ⟨rfl, rfl, hi⟩ hK
  by_cases hlt : k < l.length
  · have hlt' : (k : Int) < l.length := by omega
    have hh := Heap.set_same h id (.map (nmE ((l.map (·.1)).take k)))
    simp [hlt', hlt]
    refine callS_of (term_Name_c _ ?_)
    rw [symsB_step hlt] at hi
    rw [hi] at hq
    cases h1 : nameB l[k].1 with
    | false => simp; exact hret _ _ (by simpa [h1] using hq)
    | true =>
      simp
      refine look_names hh _ _ ?_
      cases h2 : inN l[k].1 ((l.map (·.1)).take k) with
      | true => simp; exact hret _ _ (by simpa [h1, h2] using hq)
      | false =>
        simp
        by_cases h3 : 0 ≤ l[k].2
        · have h3' : ¬ l[k].2 < 0 := by omega
          simp [h3']
          by_cases h4 : l[k].2 ≤ 4
          · have h4' : ¬ 4 < l[k].2 := by omega
            simp [h4']
            refine upd_names hh _ h2 _ ?_
            simp [wrap_k (k := k) (by omega)]
            refine hK hlt _ _ ⟨rfl, ?_, ?_⟩
            · rw [List.take_succ_eq_append_getElem (by simpa using hlt)]; simp
            · rw [hi]; simp [h1, h2, h3, h4]
          · have h4' : 4 < l[k].2 := by omega
            simp [h4']; exact hret _ _ (by simpa [h1, h2, h3, h4] using hq)
        · have h3' : l[k].2 < 0 := by omega
          simp [h3']; exact hret _ _ (by simpa [h1, h2, h3] using hq)
  · have hkn : k = l.length := by omega
    subst hkn
    simp
    refine hret _ _ ?_
    rw [hi] at hq
    have e : decide ((l.length : Int) ≤ 24) = decide (l.length ≤ 24) := by rw [decide_eq_decide]; omega
    rw [e]
    simpa [symsB] using hq
theorem inN_take {n : ByteArray} {l : List ByteArray} {k : Nat} (hk : k < l.length) : inN n (l.drop k) = ((n.toList == l[k].toList) || inN n (l.drop (k + 1))) := by
  rw [List.drop_eq_getElem_cons hk]; rfl
theorem vref02_Symbols_c (l : List Sy) {h : Heap} {Q : AV → Heap → Prop} (hq : Q (B (symsB l [] && decide (l.length ≤ 24))) h) : ACalls prog n_vref02_Symbols [.rs 2 (syCs l)] h Q := by
  refine vref02_Symbols_call ?_
  unfold vref02_Symbols
  simp only [w_len_rs, syCs_len, w_gtr, w_brA, decide_eq_true_eq]
  split
  · refine retA_of ?_
    rw [show decide (l.length ≤ 24) = false from decide_eq_false (by omega), Bool.and_false] at hq
    exact hq
  rename_i hl
  rw [show decide (l.length ≤ 24) = true from decide_eq_true (by omega), Bool.and_true] at hq
  refine loop_ix l.length (fun k => symsB l [] = symsB (l.drop k) ((l.map (·.1)).take k)) (by simp) fun k hk hi K hK => ?_
  by_cases hlt : k < l.length
  · have hlt' : (k : Int) < l.length := by omega
    simp [hlt', hlt]
    refine callS_of (vref02_Name_c _ ?_)
    rw [symsB_step hlt] at hi
    rw [hi] at hq
    cases h1 : nameB l[k].1 with
    | false => simp; exact retA_of (by simpa [h1] using hq)
    | true =>
      simp
      by_cases h3 : 0 ≤ l[k].2
      · have h3' : ¬ l[k].2 < 0 := by omega
        simp [h3']
        by_cases h4 : l[k].2 ≤ 4
        · have h4' : ¬ 4 < l[k].2 := by omega
          have hkl : k ≤ l.length := by omega
          have hmin : min (k : Int) (l.length : Int) = k := by omega
          have hkI : (k : Int) ≤ l.length := by omega
          have hmN : min k l.length = k := Nat.min_eq_left hkl
          simp [h4', hkl, hmin, hkI, hmN]
          refine loop_ix k (fun j => inN l[k].1 ((l.map (·.1)).take k) = inN l[k].1 (((l.map (·.1)).take k).drop j)) (by simp) fun j hj hij K2 hK2 => ?_
          by_cases hjk : j < k
          · have hjk' : (j : Int) < k := by omega
            have hjl : j < l.length := by omega
            have hjl' : (j : Int) < l.length := by omega
            simp [hjk', hjk, hjl, hjl', hmN]
            rw [inN_take (by simp; omega)] at hij
            have e0 : ((l.map (·.1)).take k)[j]'(by simp; omega) = l[j].1 := by simp
            rw [e0] at hij
            cases he : l[k].1.toList == l[j].1.toList with
            | true =>
              have he' : l[k].1.toList = l[j].1.toList := eq_of_beq he
              simp [he']
              rw [he] at hij
              exact retA_of (by simpa [h1, hij] using hq)
            | false =>
              have he' : ¬ l[k].1.toList = l[j].1.toList := by simpa using he
              simp [he', wrap_k (k := j) (by omega)]
              exact hK2 hjk (by rw [hij, he]; simp)
          · have : j = k := by omega
            subst this
            have hn : inN l[j].1 ((l.map (·.1)).take j) = false := by
              rw [hij, List.drop_eq_nil_of_le (by simp; omega)]; rfl
            simp [wrap_k (k := j) (by omega)]
            exact hK hlt (by rw [hi, h1, hn]; simp [h3, h4])
        · have h4' : 4 < l[k].2 := by omega
          simp [h4']; exact retA_of (by simpa [h1, h3, h4] using hq)
      · have h3' : l[k].2 < 0 := by omega
        simp [h3']; exact retA_of (by simpa [h1, h3] using hq)
  · have hkn : k = l.length := by omega
    subst hkn
    simp
    refine retA_of ?_
    rw [hi] at hq
    simpa [symsB] using hq
/-! ### Places -/
structure Pl where
  syms : List Sy
  funs : List Srt
  params : List Srt
def pl (p : Pl) : AV := .agg [.rs 2 (syCs p.syms), .rs 1 (srCs p.funs), .rs 1 (srCs p.params)]
theorem pl_eta (p : Pl) : (.agg [.rs 2 (syCs p.syms), .rs 1 (srCs p.funs), .rs 1 (srCs p.params)] : AV) = pl p := rfl
def plB (p : Pl) : Bool := (symsB p.syms [] && decide (p.syms.length ≤ 24)) && decide (p.funs.length ≤ 64) && decide (p.params.length ≤ 8) && p.funs.all okS && p.params.all okS
theorem any_not (l : List Srt) : l.any (fun s => !okS s) = !l.all okS := by
  induction l with
  | nil => rfl
  | cons s l ih => simp [ih, Bool.not_and]
theorem term_Check_c (p : Pl) {h : Heap} {Q : AV → Heap → Prop} (hq : Q (I (if plB p then 0 else 2)) h) : ACalls prog n_term_Check [pl p] h Q := by
  refine term_Check_call ?_
  unfold term_Check pl
  unfold plB at hq
  simp only [w_agg, List.length_cons, List.length_nil, true_and, g_0, g_1, g_2, w_len_rs, syCs_len, srCs_len, w_gtr, w_brA, decide_eq_true_eq]
  split
  · exact retA_of (by simpa [show ¬ p.syms.length ≤ 24 by omega] using hq)
  split
  · exact retA_of (by simpa [show ¬ p.funs.length ≤ 64 by omega] using hq)
  split
  · exact retA_of (by simpa [show ¬ p.params.length ≤ 8 by omega] using hq)
  rename_i c1 c2 c3
  refine callS_of (term_Symbols_c _ (by omega) ?_)
  cases h1 : symsB p.syms [] with
  | false => simp; exact retA_of (by simpa [h1] using hq)
  | true =>
    simp [show p.syms.length ≤ 24 by omega]
    refine callS_of (ContainsFunc_sr p.funs (f := fun s => !okS s) (fun s _ Q hq => term_Check_1_c s hq) (by omega) ?_)
    rw [any_not]
    cases h2 : p.funs.all okS with
    | false => simp; exact retA_of (by simpa [h2, -List.all_eq_true] using hq)
    | true =>
      simp
      refine callS_of (ContainsFunc_sr p.params (f := fun s => !okS s) (fun s _ Q hq => term_Check_1_c s hq) (by omega) ?_)
      rw [any_not]
      have e1 : decide (p.syms.length ≤ 24) = true := decide_eq_true (by omega)
      have e2 : decide (p.funs.length ≤ 64) = true := decide_eq_true (by omega)
      have e3 : decide (p.params.length ≤ 8) = true := decide_eq_true (by omega)
      rw [h1, h2, e1, e2, e3] at hq
      cases h3 : p.params.all okS with
      | false => simp; exact retA_of (by rw [h3] at hq; simpa using hq)
      | true => simp; exact retA_of (by rw [h3] at hq; simpa using hq)
theorem vref02_Is_c (p : Pl) {h : Heap} {Q : AV → Heap → Prop} (hq : Q (B (plB p)) h) : ACalls prog n_vref02_Is [pl p] h Q := by
  refine vref02_Is_call ?_
  unfold vref02_Is pl
  unfold plB at hq
  simp only [w_agg, List.length_cons, List.length_nil, true_and, g_0, g_1, g_2, w_len_rs, syCs_len, srCs_len, w_gtr]
  refine callS_of (vref02_Symbols_c _ ?_)
  cases h1 : (symsB p.syms [] && decide (p.syms.length ≤ 24)) with
  | false => simp; exact retA_of (by rw [h1] at hq; simpa using hq)
  | true =>
    rw [h1] at hq
    simp only [w_notA, w_brA, Bool.not_true, Bool.false_eq_true, if_false, decide_eq_true_eq]
    split
    · exact retA_of (by simpa [show ¬ p.funs.length ≤ 64 by omega] using hq)
    split
    · exact retA_of (by simpa [show ¬ p.params.length ≤ 8 by omega] using hq)
    rename_i c2 c3
    have e2 : decide (p.funs.length ≤ 64) = true := decide_eq_true (by omega)
    have e3 : decide (p.params.length ≤ 8) = true := decide_eq_true (by omega)
    rw [e2, e3] at hq
    simp only [Bool.true_and] at hq
    refine loop_ix p.funs.length (fun k => p.funs.all okS = (p.funs.drop k).all okS) (by simp) fun k hk hi K hK => ?_
    by_cases hlt : k < p.funs.length
    · have hlt' : (k : Int) < p.funs.length := by omega
      simp [hlt', hlt]
      refine callS_of ?_
      rw [sr_eta]
      refine vref01_Is_c _ ?_
      rw [List.drop_eq_getElem_cons hlt, List.all_cons] at hi
      cases hf : okS p.funs[k] with
      | false => rw [hf] at hi; simp; exact retA_of (by rw [hi] at hq; simpa using hq)
      | true => rw [hf] at hi; simp [wrap_k (k := k) (by omega)]; exact hK hlt (by rw [hi]; simp)
    · have hkn : k = p.funs.length := by omega
      subst hkn
      rw [List.drop_length] at hi
      rw [hi] at hq
      simp
      refine loop_ix p.params.length (fun k => p.params.all okS = (p.params.drop k).all okS) (by simp) fun k hk hi K hK => ?_
      by_cases hlt : k < p.params.length
      · have hlt' : (k : Int) < p.params.length := by omega
        simp [hlt', hlt]
        refine callS_of ?_
        rw [sr_eta]
        refine vref01_Is_c _ ?_
        rw [List.drop_eq_getElem_cons hlt, List.all_cons] at hi
        cases hf : okS p.params[k] with
        | false => rw [hf] at hi; simp; exact retA_of (by rw [hi] at hq; simpa using hq)
        | true => rw [hf] at hi; simp [wrap_k (k := k) (by omega)]; exact hK hlt (by rw [hi]; simp)
      · have hkn : k = p.params.length := by omega
        subst hkn
        rw [List.drop_length] at hi
        rw [hi] at hq
        simp
        exact retA_of (by simpa using hq)
theorem vref02_Check_c (p : Pl) {h : Heap} {Q : AV → Heap → Prop} (hq : Q (I (if plB p then 0 else 2)) h) : ACalls prog n_vref02_Check [pl p] h Q := by
  refine vref02_Check_call ?_
  unfold vref02_Check pl
  simp
  refine callS_of ?_
  rw [pl_eta]
  refine vref02_Is_c p ?_
  cases hp : plB p <;> (simp; exact retA_of (by rw [hp] at hq; simpa using hq))
theorem vlaw02_given_c (p : Pl) {h : Heap} {Q : AV → Heap → Prop} (hq : Q (pl p) h) : ACalls prog n_vlaw02_given [pl p] h Q := by
  refine vlaw02_given_call ?_
  unfold vlaw02_given pl
  simp
  exact retA_of hq
end Am
