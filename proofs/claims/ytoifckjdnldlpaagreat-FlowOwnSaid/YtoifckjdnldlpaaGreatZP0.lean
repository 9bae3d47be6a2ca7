/- P0: joined of Pa, Pb, Pc, Pd, Pe. -/
import Derived.Test.YtoifckjdnldlpaaGreatZJ2
set_option linter.unusedVariables false
set_option linter.unusedSimpArgs false
namespace Am
open Go Go.Proofs.Tryz
abbrev Tx := List UInt8
def begL (t w : Tx) (i : Nat) : Bool := decide (i + w.length ≤ t.length) && decide ((t.drop i).take w.length = w)
def wordL (t : Tx) (i : Nat) : Nat := i + ((t.drop i).takeWhile fun c => okc c.toNat).length
def digL (t : Tx) (i : Nat) : Bool := decide (i < t.length) && decide (48 ≤ (t.getD i 0).toNat) && decide ((t.getD i 0).toNat ≤ 57)
def numL (t : Tx) (i : Nat) : Option Nat := if digL t i && !digL t (i + 1) then some ((t.getD i 0).toNat - 48) else none
def sortL : Nat → Tx → Nat → Option (Nat × Nat)
  | 0, _, _ => none
  | n + 1, t, i => if begL t [111] i = true then (if begL t [32, 62, 32] (i + 1) = true then (sortL n t (i + 4)).map fun p => (p.1 + 1, p.2) else some (0, i + 1)) else none
def cut (t : Tx) (i j : Nat) : Tx := (t.take j).drop i
def indexL (l : List ByteArray) (n : Tx) : Nat := l.findIdx fun m => decide (m.data.toList = n)
def headL (ns fs : List ByteArray) (t : Tx) (i : Nat) : Option ((Int × Int) × Nat) :=
  if begL t [36] i = true then (numL t (i + 1)).map fun n => ((0, (n : Int)), i + 2)
  else if begL t [35] i = true then (if indexL ns (cut t (i + 1) (wordL t (i + 1))) < ns.length then some ((2, (indexL ns (cut t (i + 1) (wordL t (i + 1))) : Int)), wordL t (i + 1)) else none)
  else (if indexL fs (cut t i (wordL t i)) < fs.length then some ((1, (indexL fs (cut t i (wordL t i)) : Int)), wordL t i) else none)
mutual
def termL (ns fs : List ByteArray) (t : Tx) : Nat → Nat → Option (Tm × Nat)
  | 0, _ => none
  | n + 1, i => (headL ns fs t i).bind fun a => (argsL ns fs t n a.2).map fun p => (.mk a.1 p.1, p.2)
def argsL (ns fs : List ByteArray) (t : Tx) : Nat → Nat → Option (List Tm × Nat)
  | 0, _ => none
  | n + 1, i => if begL t [32] i = true then (if begL t [32, 40] i = true then (termL ns fs t n (i + 2)).bind fun a => if decide (0 < a.1.kids.length) && begL t [41] a.2 = true then (argsL ns fs t n (a.2 + 1)).map fun p => (a.1 :: p.1, p.2) else none
      else (headL ns fs t (i + 1)).bind fun a => (argsL ns fs t n a.2).map fun p => (.mk a.1 [] :: p.1, p.2))
    else some ([], i)
end
end Am
set_option linter.unusedVariables false
set_option linter.unusedSimpArgs false
namespace Am
open Go Go.Proofs.Tryz
abbrev tl (t : ByteArray) : Tx := t.data.toList
theorem tl_len (t : ByteArray) : (tl t).length = t.size := sz_data t
theorem extract_tl (t : ByteArray) (i j : Nat) : tl (t.extract i j) = ((tl t).drop i).take (j - i) := by
  show (t.extract i j).data.toList = _
  rw [ByteArray.data_extract, Array.toList_extract]
theorem beg_tac {t w : ByteArray} {i : Nat} (ht : t.size ≤ 1000000) (hw : w.size ≤ 1000000) (hi : i ≤ 1000000) {h : Heap} {Q : AV → Heap → Prop} (hq : Q (B (begL (tl t) (tl w) i)) h) :
    binA .sub (.val (.int .i64 t.size)) (I i) fun x_2 => binA .geq x_2 (.val (.int .i64 w.size)) fun x_4 =>
    brA x_4 (binA .add (I i) (.val (.int .i64 w.size)) fun x_6 => sliceA 0 (S t) (some (I i)) (some x_6) fun x_7 => binA .eql x_7 (S w) fun x_8 => retA x_8 h Q) (retA (B false) h Q) := by
  rw [w_sub, wrap_i64 (by omega) (by omega), w_geq, w_brA]
  by_cases hle : i + w.size ≤ t.size
  · rw [if_pos (by simp; omega), w_add, wrap_i64 (by omega) (by omega)]
    have e1 : ((i : Int) + (w.size : Int)).toNat = i + w.size := by omega
    refine ⟨rfl, by omega, by omega, by omega, ?_⟩
    show binA BinOp.eql (S _) (S w) _
    rw [w_eqls, e1, Int.toNat_natCast]
    refine retA_of ?_
    have e2 : (t.extract i (i + w.size)).toList = ((tl t).drop i).take (tl w).length := by
      rw [ByteArray.toList_eq]
      have := extract_tl t i (i + w.size)
      rw [show i + w.size - i = w.size by omega] at this
      rw [tl_len]; exact this
    have e3 : begL (tl t) (tl w) i = ((t.extract i (i + w.size)).toList == w.toList) := by
      unfold begL
      rw [e2, ByteArray.toList_eq, tl_len, tl_len, decide_eq_true hle, Bool.true_and]
      rw [Bool.eq_iff_iff, decide_eq_true_eq, beq_iff_eq]
    rw [e3] at hq; exact hq
  · rw [if_neg (by simp; omega)]
    have e3 : begL (tl t) (tl w) i = false := by
      unfold begL
      rw [tl_len, tl_len, decide_eq_false hle, Bool.false_and]
    rw [e3] at hq; exact retA_of hq
theorem vref03_begins_c {t w : ByteArray} {i : Nat} (ht : t.size ≤ 1000000) (hw : w.size ≤ 1000000) (hi : i ≤ 1000000) {h : Heap} {Q : AV → Heap → Prop} (hq : Q (B (begL (tl t) (tl w) i)) h) : ACalls prog n_vref03_begins [S t, I i, S w] h Q := by
  refine vref03_begins_call ?_
  unfold vref03_begins
  simp only [w_lenS]
  exact beg_tac ht hw hi hq
theorem vref01_begins_c {t w : ByteArray} {i : Nat} (ht : t.size ≤ 1000000) (hw : w.size ≤ 1000000) (hi : i ≤ 1000000) {h : Heap} {Q : AV → Heap → Prop} (hq : Q (B (begL (tl t) (tl w) i)) h) : ACalls prog n_vref01_begins [S t, I i, S w] h Q := by
  refine vref01_begins_call ?_
  unfold vref01_begins
  simp only [w_lenS]
  exact beg_tac ht hw hi hq
theorem wordL_step {t : Tx} {j : Nat} (hj : j < t.length) : wordL t j = if okc (t.getD j 0).toNat = true then wordL t (j + 1) else j := by
  unfold wordL
  rw [List.drop_eq_getElem_cons hj, List.takeWhile_cons]
  have : t.getD j 0 = t[j] := by simp [List.getD_eq_getElem?_getD, hj]
  rw [this]
  split <;> simp <;> omega
theorem wordL_end {t : Tx} {j : Nat} (hj : t.length ≤ j) : wordL t j = j := by
  unfold wordL
  rw [List.drop_of_length_le hj]; rfl
theorem wordL_le {t : Tx} (i : Nat) (hi : i ≤ t.length) : i ≤ wordL t i ∧ wordL t i ≤ t.length := by
  unfold wordL
  have := (List.takeWhile_sublist (fun c => okc c.toNat) (l := t.drop i)).length_le
  rw [List.length_drop] at this
  omega
theorem vref03_word_c {t : ByteArray} {i : Nat} (ht : t.size ≤ 1000000) (hi : i ≤ t.size) {h : Heap} {Q : AV → Heap → Prop} (hq : Q (I (wordL (tl t) i)) h) : ACalls prog n_vref03_word [S t, I i] h Q := by
  refine vref03_word_call ?_
  unfold vref03_word
  refine loop_down (fun n σ h' => ∃ j : Nat, σ = [I j] ∧ h' = h ∧ j ≤ t.size ∧ n = t.size - j ∧ wordL (tl t) j = wordL (tl t) i) _ ⟨i, rfl, rfl, hi, rfl, rfl⟩ ?_
  rintro n σ h' K ⟨j, rfl, rfl, hj, rfl, hw⟩ hK
  by_cases hlt : j < t.size
  · have hlt' : (j : Int) < t.size := by omega
    have hlt2 : j < (tl t).length := by rw [tl_len]; exact hlt
    have hst := wordL_step hlt2
    have hwk := wrap_k (k := j) (by omega)
    have next : okc ((tl t).getD j 0).toNat = true → K [I ((j + 1 : Nat) : Int)] h' := fun ho => hK (t.size - (j + 1)) _ _ (by omega) ⟨j + 1, rfl, rfl, by omega, rfl, by rw [if_pos ho] at hst; rw [← hst]; exact hw⟩
    have stop : okc ((tl t).getD j 0).toNat = false → retA (I j) h' Q := fun ho => retA_of (by rw [if_neg (by rw [ho]; simp)] at hst; rw [← hw, hst] at hq; exact hq)
    have LS : ∀ k : AV → Prop, k (.val (.int .u8 (((tl t).getD j 0).toNat))) → strA (S t) (I j) k := fun k hk => ⟨by omega, hlt', by rw [Int.toNat_natCast]; exact hk⟩
    generalize hc : ((tl t).getD j 0).toNat = c at next stop LS
    simp only [g_0, w_lenS, w_lss, hlt', decide_true, w_brA, if_true]
    refine LS _ ?_
    have third : (48 ≤ c ∧ c ≤ 57 ∨ True) → ∀ (_ : ¬ (97 ≤ c ∧ c ≤ 122)) (_ : ¬ (48 ≤ c ∧ c ≤ 57)), (strA (S t) (I j) fun x_16 => binA .eql x_16 (.val (.int .u8 95)) fun x_17 => brA x_17 (binA .add (I j) (I 1) fun x_18 => K [x_18] h') (retA (I j) h' Q)) := fun _ n1 n2 => by
      refine LS _ ?_
      rw [w_eql, w_brA]
      by_cases k : c = 95
      · rw [if_pos (by simp; omega), w_add, hwk]
        exact next (by subst k; decide)
      · rw [if_neg (by simp; omega)]
        refine stop ?_
        unfold okc
        have a1 : (decide (97 ≤ c) && decide (c ≤ 122)) = false := by
          cases hh : (decide (97 ≤ c) && decide (c ≤ 122)) with
          | false => rfl
          | true => simp only [Bool.and_eq_true, decide_eq_true_eq] at hh; exact absurd hh n1
        have a2 : (decide (48 ≤ c) && decide (c ≤ 57)) = false := by
          cases hh : (decide (48 ≤ c) && decide (c ≤ 57)) with
          | false => rfl
          | true => simp only [Bool.and_eq_true, decide_eq_true_eq] at hh; exact absurd hh n2
        rw [a1, a2, decide_eq_false k]; rfl
    have second : ∀ (_ : ¬ (97 ≤ c ∧ c ≤ 122)), (strA (S t) (I j) fun x_11 => binA .geq x_11 (.val (.int .u8 48)) fun x_12 => brA x_12 (strA (S t) (I j) fun x_13 => binA .leq x_13 (.val (.int .u8 57)) fun x_14 =>
         brA x_14 (binA .add (I j) (I 1) fun x_15 => K [x_15] h') (strA (S t) (I j) fun x_16 => binA .eql x_16 (.val (.int .u8 95)) fun x_17 => brA x_17 (binA .add (I j) (I 1) fun x_18 => K [x_18] h') (retA (I j) h' Q)))
         (strA (S t) (I j) fun x_19 => binA .eql x_19 (.val (.int .u8 95)) fun x_20 => brA x_20 (binA .add (I j) (I 1) fun x_21 => K [x_21] h') (retA (I j) h' Q))) := fun n1 => by
      refine LS _ ?_
      rw [w_geq, w_brA]
      by_cases k1 : 48 ≤ c
      · rw [if_pos (by simp; omega)]
        refine LS _ ?_
        rw [w_leq, w_brA]
        by_cases k2 : c ≤ 57
        · rw [if_pos (by simp; omega), w_add, hwk]
          refine next ?_
          unfold okc; rw [decide_eq_true k1, decide_eq_true k2]; simp
        · rw [if_neg (by simp; omega)]
          exact third (.inr trivial) n1 (by omega)
      · rw [if_neg (by simp; omega)]
        exact third (.inr trivial) n1 (by omega)
    rw [w_geq, w_brA]
    by_cases k1 : 97 ≤ c
    · rw [if_pos (by simp; omega)]
      refine LS _ ?_
      rw [w_leq, w_brA]
      by_cases k2 : c ≤ 122
      · rw [if_pos (by simp; omega), w_add, hwk]
        refine next ?_
        unfold okc; rw [decide_eq_true k1, decide_eq_true k2]; rfl
      · rw [if_neg (by simp; omega)]
        exact second (by omega)
    · rw [if_neg (by simp; omega)]
      exact second (by omega)
  · have hjn : j = t.size := by omega
    subst hjn
    simp only [g_0, w_lenS, w_lss, Int.lt_irrefl, decide_false, w_brA, Bool.false_eq_true, if_false]
    refine retA_of ?_
    rw [wordL_end (by rw [tl_len]; exact Nat.le_refl _)] at hw
    rw [← hw] at hq; exact hq
theorem vref03_number_c {t : ByteArray} {i n : Nat} (ht : t.size ≤ 1000000) (hn : numL (tl t) i = some n) {h : Heap} {Q : AV → Heap → Prop} (hq : Q (.tup [I n, I ((i + 1 : Nat) : Int), B true]) h) : ACalls prog n_vref03_number [S t, I i] h Q := by
  unfold numL at hn
  by_cases hc : (digL (tl t) i && !digL (tl t) (i + 1)) = true
  case neg => rw [if_neg hc] at hn; cases hn
  rw [if_pos hc] at hn
  simp only [Bool.and_eq_true, Bool.not_eq_true'] at hc
  obtain ⟨hd, hnd⟩ := hc
  unfold digL at hd
  simp only [Bool.and_eq_true, decide_eq_true_eq] at hd
  obtain ⟨⟨d1, d2⟩, d3⟩ := hd
  rw [tl_len] at d1
  have hnn : n = ((tl t).getD i 0).toNat - 48 := (Option.some.inj hn).symm
  clear hn
  have LS0 : ∀ k : AV → Prop, k (.val (.int .u8 (((tl t).getD i 0).toNat))) → strA (S t) (I i) k := fun k hk => ⟨by omega, by omega, by rw [Int.toNat_natCast]; exact hk⟩
  generalize ((tl t).getD i 0).toNat = c0 at d2 d3 hnn LS0
  have hwk := wrap_k (k := i) (by omega)
  refine vref03_number_call ?_
  unfold vref03_number
  have fin : binA .gtr (I ((i + 1 : Nat) : Int)) (I i) fun x_18 =>
      brA x_18 (binA .leq (I n) (I 1000000000) fun x_19 =>
      brA x_19 (binA .add (I i) (I 1) fun x_20 =>
      binA .eql (I ((i + 1 : Nat) : Int)) x_20 fun x_21 =>
      brA x_21 (retA (.tup [I n, I ((i + 1 : Nat) : Int), (B true)]) h Q) (strA (S t) (I i) fun x_22 =>
      binA .neq x_22 (.val (.int .u8 48)) fun x_23 =>
      retA (.tup [I n, I ((i + 1 : Nat) : Int), x_23]) h Q)) (retA (.tup [I n, I ((i + 1 : Nat) : Int), (B false)]) h Q)) (retA (.tup [I n, I ((i + 1 : Nat) : Int), (B false)]) h Q) := by
    rw [w_gtr, w_brA, if_pos (by simp; omega), w_leq, w_brA, if_pos (by simp; omega), w_add, hwk, w_eql, w_brA, if_pos (by simp)]
    exact retA_of hq
  refine loop_up 1 (fun k σ h' => h' = h ∧ σ = if k = 0 then [I i, I 0] else [I ((i + 1 : Nat) : Int), I n]) ⟨rfl, rfl⟩ (fun k σ' h' ⟨_, e⟩ => by rw [e]; split <;> rfl) ?_
  rintro k σ' h' K hk ⟨rfl, rfl⟩ hK
  by_cases hk0 : k = 0
  · subst hk0
    have hlt' : (i : Int) < t.size := by omega
    have LS := LS0
    simp only [if_true, g_0, g_1, w_lenS, w_lss, hlt', decide_true, w_brA]
    refine LS _ ?_
    rw [w_geq, w_brA, if_pos (by simp; omega)]
    refine LS _ ?_
    rw [w_leq, w_brA, if_pos (by simp; omega), w_sub, wrap_i64 (by omega) (by omega), w_lss, w_brA, if_pos (by simp)]
    rw [w_mul, wrap_i64 (by omega) (by omega)]
    refine LS _ ?_
    have hw8 : IntKind.u8.wrap ((c0 : Int) - 48) = (c0 : Int) - 48 := by
      unfold IntKind.wrap
      simp [IntKind.bits, IntKind.signed]
      omega
    rw [w_sub, hw8, w_conv, wrap_i64 (by omega) (by omega), w_add, wrap_i64 (by omega) (by omega), w_add, hwk]
    refine hK (by omega) _ _ ⟨rfl, ?_⟩
    rw [if_neg (by omega), hnn]
    congr 2
    simp; omega
  · have hk1 : k = 1 := by omega
    subst hk1
    rw [if_neg hk0]
    simp only [g_0, g_1, w_lenS, w_lss, w_brA]
    by_cases hlt : i + 1 < t.size
    · have hlt' : ((i + 1 : Nat) : Int) < t.size := by omega
      have LS : ∀ k : AV → Prop, k (.val (.int .u8 (((tl t).getD (i + 1) 0).toNat))) → strA (S t) (I ((i + 1 : Nat) : Int)) k := fun k hk => ⟨by omega, hlt', by rw [Int.toNat_natCast]; exact hk⟩
      rw [if_pos (by simpa using hlt')]
      unfold digL at hnd
      rw [tl_len, decide_eq_true hlt, Bool.true_and, Bool.and_eq_false_iff, decide_eq_false_iff_not, decide_eq_false_iff_not] at hnd
      generalize ((tl t).getD (i + 1) 0).toNat = c9 at hnd LS
      refine LS _ ?_
      rw [w_geq, w_brA]
      by_cases c1 : 48 ≤ c9
      · rw [if_pos (by simp; omega)]
        refine LS _ ?_
        rw [w_leq, w_brA, if_neg (by simp; omega)]
        exact fin
      · rw [if_neg (by simp; omega)]
        exact fin
    · rw [if_neg (by simp; omega)]
      exact fin
end Am
set_option linter.unusedVariables false
set_option linter.unusedSimpArgs false
namespace Am
open Go Go.Proofs.Tryz
theorem begL_le {t w : Tx} {i : Nat} (h : begL t w i = true) : i + w.length ≤ t.length := by
  unfold begL at h
  simp only [Bool.and_eq_true, decide_eq_true_eq] at h
  exact h.1
theorem index_tac {l : List ByteArray} {n : ByteArray} {idx : Nat} (hx : indexL l (tl n) = idx) (hlt : idx < l.length) : (∃ hk : idx < l.length, (l[idx].toList == n.toList) = true) ∧ ∀ j (hj : j < l.length), j < idx → (l[j].toList == n.toList) = false := by
  unfold indexL at hx
  subst hx
  refine ⟨⟨hlt, ?_⟩, fun j hj hlt2 => ?_⟩
  · have := List.findIdx_getElem (w := hlt)
    rw [decide_eq_true_eq] at this
    rw [beq_iff_eq, ByteArray.toList_eq, ByteArray.toList_eq]; exact this
  · have := List.not_of_lt_findIdx hlt2
    have h2 : ¬ l[j].data.toList = tl n := by simpa using this
    cases hh : (l[j].toList == n.toList) with
    | false => rfl
    | true => rw [beq_iff_eq, ByteArray.toList_eq, ByteArray.toList_eq] at hh; exact absurd hh h2
theorem vref03_index_sym {s : Sch} {n : ByteArray} {idx : Nat} (hs : s.syms.length ≤ 1000000) (hx : indexL (s.syms.map (·.1)) (tl n) = idx) (hlt : idx < (s.syms.map (·.1)).length) {h : Heap} {Q : AV → Heap → Prop} (hq : Q (I idx) h) : ACalls prog n_vref03_index [sm s, B true, S n] h Q := by
  obtain ⟨⟨_, t1⟩, t2⟩ := index_tac hx hlt
  rw [List.length_map] at hlt
  refine vref03_index_call ?_
  unfold vref03_index sm
  simp only [w_agg, List.length_cons, List.length_nil, true_and, g_0, g_1, w_brA, if_true, w_len_rs, syCs_len]
  refine loop_up idx (fun k σ h' => σ = [I k] ∧ h' = h) ⟨rfl, rfl⟩ (fun k σ' h' ⟨e, _⟩ => by rw [e]; rfl) ?_
  rintro k σ' h' K hk ⟨rfl, rfl⟩ hK
  have hkl : k < s.syms.length := by omega
  have hkl' : (k : Int) < s.syms.length := by omega
  simp only [g_0, w_lss, hkl', decide_true, w_brA, if_true]
  simp [hkl, hkl']
  by_cases e : k = idx
  · subst e
    have e1 : s.syms[k].1.toList = n.toList := by
      have := t1
      simp only [List.getElem_map, beq_iff_eq] at this; exact this
    simp [e1]
    exact retA_of hq
  · have e1 : ¬ s.syms[k].1.toList = n.toList := by
      have := t2 k (by rw [List.length_map]; exact hkl) (by omega)
      simpa using this
    simp [e1, wrap_k (k := k) (by omega)]
    exact hK (by omega) _ _ ⟨rfl, rfl⟩
theorem vref03_index_fun {s : Sch} {n : ByteArray} {idx : Nat} (hs : s.funs.length ≤ 1000000) (hx : indexL (s.funs.map (·.name)) (tl n) = idx) (hlt : idx < (s.funs.map (·.name)).length) {h : Heap} {Q : AV → Heap → Prop} (hq : Q (I idx) h) : ACalls prog n_vref03_index [sm s, B false, S n] h Q := by
  obtain ⟨⟨_, t1⟩, t2⟩ := index_tac hx hlt
  rw [List.length_map] at hlt
  refine vref03_index_call ?_
  unfold vref03_index sm
  simp only [w_agg, List.length_cons, List.length_nil, true_and, g_0, g_1]
  refine loop_up 0 (fun k σ h' => σ = [I k] ∧ h' = h) ⟨rfl, rfl⟩ (fun k σ' h' ⟨e, _⟩ => by rw [e]; rfl) ?_
  rintro k0 σ' h' K0 hk0 ⟨rfl, rfl⟩ hK0
  simp only [w_brA, Bool.false_eq_true, if_false]
  refine loop_up idx (fun k σ h2 => σ = [I k] ∧ h2 = h') ⟨rfl, rfl⟩ (fun k σ' h' ⟨e, _⟩ => by rw [e]; rfl) ?_
  rintro k σ' h2 K hk ⟨rfl, rfl⟩ hK
  have hkl : k < s.funs.length := by omega
  have hkl' : (k : Int) < s.funs.length := by omega
  simp [hkl, hkl', fnC]
  by_cases e : k = idx
  · subst e
    have e1 : s.funs[k].name.toList = n.toList := by
      have := t1
      simp only [List.getElem_map, beq_iff_eq] at this; exact this
    simp [e1]
    exact retA_of hq
  · have e1 : ¬ s.funs[k].name.toList = n.toList := by
      have := t2 k (by rw [List.length_map]; exact hkl) (by omega)
      simpa using this
    simp [e1, wrap_k (k := k) (by omega)]
    exact hK (by omega) _ _ ⟨rfl, rfl⟩
abbrev nsS (s : Sch) : List ByteArray := s.syms.map (·.1)
abbrev nsF (s : Sch) : List ByteArray := s.funs.map (·.name)
theorem headL_le {ns fs : List ByteArray} {t : Tx} {i : Nat} (hi : i ≤ t.length) {a : Int × Int} {e : Nat} (hh : headL ns fs t i = some (a, e)) : i ≤ e ∧ e ≤ t.length := by
  unfold headL at hh
  by_cases b1 : begL t [36] i = true
  · rw [if_pos b1] at hh
    cases hn : numL t (i + 1) with
    | none => rw [hn] at hh; cases hh
    | some n =>
      rw [hn] at hh
      cases hh
      unfold numL at hn
      by_cases hc : (digL t (i + 1) && !digL t (i + 1 + 1)) = true
      · unfold digL at hc
        simp only [Bool.and_eq_true, decide_eq_true_eq] at hc
        omega
      · rw [if_neg hc] at hn; cases hn
  · rw [if_neg b1] at hh
    by_cases b2 : begL t [35] i = true
    · rw [if_pos b2] at hh
      have := begL_le b2
      have hw := wordL_le (t := t) (i + 1) (by simpa using this)
      split at hh
      · cases hh; omega
      · cases hh
    · rw [if_neg b2] at hh
      have hw := wordL_le (t := t) i hi
      split at hh
      · cases hh; omega
      · cases hh
theorem cut_extract (t : ByteArray) (i j : Nat) : tl (t.extract i j) = cut (tl t) i j := by
  rw [extract_tl]; unfold cut
  rw [List.drop_take]
theorem vref03_parseHead_c {s : Sch} {t : ByteArray} {i e : Nat} {a : Int × Int} (hs1 : s.syms.length ≤ 1000000) (hs2 : s.funs.length ≤ 1000000) (ht : t.size ≤ 100000) (hi : i ≤ t.size) (hh : headL (nsS s) (nsF s) (tl t) i = some (a, e)) {h : Heap} {Q : AV → Heap → Prop} (hq : Q (.tup [.agg [I a.1, I a.2, .e0], I e, B true]) h) : ACalls prog n_vref03_parseHead [sm s, S t, I i] h Q := by
  have hle := headL_le (by rw [tl_len]; exact hi) hh
  rw [tl_len] at hle
  unfold headL at hh
  refine vref03_parseHead_call ?_
  unfold vref03_parseHead
  simp only [sm, w_agg, List.length_cons, List.length_nil, true_and, g_0, g_1]
  have z1 : (⟨#[36]⟩ : ByteArray).size ≤ 1000000 := by decide
  have z2 : (⟨#[35]⟩ : ByteArray).size ≤ 1000000 := by decide
  refine callS_of (vref03_begins_c (by omega) z1 (by omega) ?_)
  rw [w_brA]
  have y1 : tl (⟨#[36]⟩ : ByteArray) = [36] := rfl
  have y2 : tl (⟨#[35]⟩ : ByteArray) = [35] := rfl
  rw [y1]
  by_cases b1 : begL (tl t) [36] i = true
  · rw [if_pos b1] at hh ⊢
    rw [w_add, wrap_k (k := i) (by omega)]
    cases hn : numL (tl t) (i + 1) with
    | none => rw [hn] at hh; cases hh
    | some n =>
      rw [hn] at hh
      cases hh
      refine callS_of (vref03_number_c (by omega) hn ?_)
      simp only [w_tup, List.length_cons, List.length_nil, List.getD_cons_zero, List.getD_cons_succ, w_one_v]
      exact ⟨by omega, by omega, by omega, retA_of hq⟩
  · rw [if_neg b1] at hh ⊢
    refine callS_of (vref03_begins_c (by omega) z2 (by omega) ?_)
    rw [w_brA, y2]
    by_cases b2 : begL (tl t) [35] i = true
    · rw [if_pos b2] at hh ⊢
      have hb := begL_le b2
      rw [tl_len] at hb
      simp only [List.length_cons, List.length_nil] at hb
      have hw := wordL_le (t := tl t) (i + 1) (by rw [tl_len]; omega)
      rw [tl_len] at hw
      rw [w_add, wrap_k (k := i) (by omega)]
      refine callS_of (vref03_word_c (by omega) (by omega) ?_)
      split at hh
      case isFalse => cases hh
      rename_i hidx
      cases hh
      refine ⟨rfl, by omega, by omega, by omega, ?_⟩
      simp only [Int.toNat_natCast]
      refine callS_of ?_
      rw [sm_eta, b2]
      refine vref03_index_sym hs1 (idx := indexL (nsS s) (cut (tl t) (i + 1) (wordL (tl t) (i + 1)))) (by rw [cut_extract]) hidx ?_
      simp only [w_one_v, w_geq]
      rw [decide_eq_true (by omega)]
      exact retA_of hq
    · rw [if_neg b2] at hh ⊢
      have hw := wordL_le (t := tl t) i (by rw [tl_len]; omega)
      rw [tl_len] at hw
      refine callS_of (vref03_word_c (by omega) (by omega) ?_)
      split at hh
      case isFalse => cases hh
      rename_i hidx
      cases hh
      refine ⟨rfl, by omega, by omega, by omega, ?_⟩
      simp only [Int.toNat_natCast]
      refine callS_of ?_
      have b3 : begL (tl t) [35] i = false := by cases hh : begL (tl t) [35] i with
        | false => rfl
        | true => exact absurd hh b2
      rw [sm_eta, b3]
      refine vref03_index_fun hs2 (idx := indexL (nsF s) (cut (tl t) i (wordL (tl t) i))) (by rw [cut_extract]) hidx ?_
      simp only [w_one_v, w_geq]
      rw [decide_eq_true (by omega)]
      exact retA_of hq
end Am
set_option linter.unusedVariables false
set_option linter.unusedSimpArgs false
namespace Am
open Go Go.Proofs.Tryz
theorem termL_le {ns fs : List ByteArray} {t : Tx} : ∀ n, (∀ i u e, i ≤ t.length → termL ns fs t n i = some (u, e) → i ≤ e ∧ e ≤ t.length) ∧ (∀ i us e, i ≤ t.length → argsL ns fs t n i = some (us, e) → i ≤ e ∧ e ≤ t.length) := by
  intro n
  induction n with
  | zero => exact ⟨fun i u e _ h => by simp [termL] at h, fun i us e _ h => by simp [argsL] at h⟩
  | succ n ih =>
    refine ⟨fun i u e hi h => ?_, fun i us e hi h => ?_⟩
    · rw [termL] at h
      cases hh : headL ns fs t i with
      | none => rw [hh] at h; cases h
      | some p =>
        obtain ⟨a, e0⟩ := p
        rw [hh] at h
        have h1 := headL_le hi hh
        cases ha : argsL ns fs t n e0 with
        | none => simp only [Option.bind_some, ha, Option.map_none] at h; cases h
        | some q =>
          obtain ⟨us, e1⟩ := q
          simp only [Option.bind_some, ha, Option.map_some, Option.some.injEq, Prod.mk.injEq] at h
          have h2 := ih.2 e0 us e1 h1.2 ha
          omega
    · rw [argsL] at h
      by_cases b1 : begL t [32] i = true
      · rw [if_pos b1] at h
        have hb1 := begL_le b1
        simp only [List.length_cons, List.length_nil] at hb1
        by_cases b2 : begL t [32, 40] i = true
        · rw [if_pos b2] at h
          have hb2 := begL_le b2
          simp only [List.length_cons, List.length_nil] at hb2
          cases ht : termL ns fs t n (i + 2) with
          | none => rw [ht] at h; cases h
          | some p =>
            obtain ⟨u, e0⟩ := p
            rw [ht] at h
            simp only [Option.bind_some] at h
            have h1 := ih.1 (i + 2) u e0 (by omega) ht
            split at h
            case isFalse => cases h
            rename_i hc
            simp only [Bool.and_eq_true, decide_eq_true_eq] at hc
            have hb3 := begL_le hc.2
            simp only [List.length_cons, List.length_nil] at hb3
            cases ha : argsL ns fs t n (e0 + 1) with
            | none => rw [ha] at h; cases h
            | some q =>
              obtain ⟨us', e1⟩ := q
              rw [ha] at h
              simp only [Option.map_some, Option.some.injEq, Prod.mk.injEq] at h
              have h2 := ih.2 (e0 + 1) us' e1 (by omega) ha
              omega
        · rw [if_neg b2] at h
          cases hh : headL ns fs t (i + 1) with
          | none => rw [hh] at h; cases h
          | some p =>
            obtain ⟨a, e0⟩ := p
            rw [hh] at h
            simp only [Option.bind_some] at h
            have h1 := headL_le (by omega) hh
            cases ha : argsL ns fs t n e0 with
            | none => rw [ha] at h; cases h
            | some q =>
              obtain ⟨us', e1⟩ := q
              rw [ha] at h
              simp only [Option.map_some, Option.some.injEq, Prod.mk.injEq] at h
              have h2 := ih.2 e0 us' e1 h1.2 ha
              omega
      · rw [if_neg b1] at h
        simp only [Option.some.injEq, Prod.mk.injEq] at h
        omega
def Le3 (els cs : List (List AV)) : Prop := els.length = cs.length ∧ ∀ k, k < cs.length → (cs.getD k []).length = 3 ∧ ∀ j, g (els.getD k []) j = g (cs.getD k []) j ∨ (g (els.getD k []) j = .e0 ∧ g (cs.getD k []) j = .rs 3 [])
theorem tmCs_app1 (l : List Tm) (t : Tm) : tmCs (l ++ [t]) = tmCs l ++ [[I t.lab.1, I t.lab.2, .rs 3 (tmCs t.kids)]] := by
  rw [← tmC_eq, tmCs_eq, List.map_append, ← tmCs_eq]; rfl
theorem Le3.snoc {els cs : List (List AV)} {x y : List AV} (h : Le3 els cs) (hy : y.length = 3) (hx : ∀ j, g x j = g y j ∨ (g x j = .e0 ∧ g y j = .rs 3 [])) : Le3 (els ++ [x]) (cs ++ [y]) := by
  refine ⟨by simp [h.1], fun k hk => ?_⟩
  simp only [List.length_append, List.length_cons, List.length_nil] at hk
  by_cases e : k < cs.length
  · have e2 : k < els.length := by rw [h.1]; exact e
    rw [List.getD_eq_getElem?_getD, List.getD_eq_getElem?_getD, List.getElem?_append_left e, List.getElem?_append_left e2, ← List.getD_eq_getElem?_getD, ← List.getD_eq_getElem?_getD]
    exact h.2 k e
  · have e2 : k = cs.length := by omega
    subst e2
    rw [List.getD_eq_getElem?_getD, List.getD_eq_getElem?_getD, List.getElem?_append_right (Nat.le_refl _), List.getElem?_append_right (by rw [h.1]; exact Nat.le_refl _), h.1]
    simp only [Nat.sub_self, List.getElem?_cons_zero, Option.getD_some]
    exact ⟨hy, hx⟩
theorem Le3.freeze {els cs : List (List AV)} (hl : Le3 els cs) {h h' : Heap} {x : AV} (hs : SlO 3 els h x h') : Ref h' h x (.rs 3 cs) ∧ HRef h' h := by
  refine ⟨?_, hs.href⟩
  rcases hs with ⟨rfl, rfl, rfl⟩ | ⟨hne, id, hi, rfl, rfl⟩
  · have : cs = [] := List.eq_nil_of_length_eq_zero (by rw [← hl.1]; rfl)
    subst this; exact .e0
  · refine .frz (Heap.set_same _ _ _) hi (Nat.le_refl _) hl.1.symm (fun k hk => (hl.2 k (by rw [← hl.1]; exact hk)).1) fun k j hk _ => ?_
    rcases (hl.2 k (by rw [← hl.1]; exact hk)).2 j with e | ⟨e1, e2⟩
    · rw [e]; exact .refl
    · rw [e1, e2]; exact .e0
theorem vref03_parseTerm_c {s : Sch} {t : ByteArray} (hs1 : s.syms.length ≤ 1000000) (hs2 : s.funs.length ≤ 1000000) (ht : t.size ≤ 100000) (n : Nat) : n ≤ 100000 → ∀ {i e : Nat} {u : Tm}, i ≤ t.size → termL (nsS s) (nsF s) (tl t) n i = some (u, e) → ∀ {h : Heap} {Q : AV → Heap → Prop}, Q (.tup [tm u, I e, B true]) h → ACalls prog n_vref03_parseTerm [sm s, S t, I i] h Q := by
  induction n using Nat.strongRecOn with
  | ind n IH =>
  intro hn i e u hi hu h Q hq
  cases n with
  | zero => simp [termL] at hu
  | succ n =>
  have y1 : tl (⟨#[32]⟩ : ByteArray) = [32] := rfl
  have y2 : tl (⟨#[32, 40]⟩ : ByteArray) = [32, 40] := rfl
  have y3 : tl (⟨#[41]⟩ : ByteArray) = [41] := rfl
  have z1 : (⟨#[32]⟩ : ByteArray).size ≤ 1000000 := by decide
  have z2 : (⟨#[32, 40]⟩ : ByteArray).size ≤ 1000000 := by decide
  have z3 : (⟨#[41]⟩ : ByteArray).size ≤ 1000000 := by decide
  rw [termL] at hu
  cases hh : headL (nsS s) (nsF s) (tl t) i with
  | none => rw [hh] at hu; cases hu
  | some p =>
  obtain ⟨a, e0⟩ := p
  rw [hh] at hu
  simp only [Option.bind_some] at hu
  have h1 := headL_le (by rw [tl_len]; exact hi) hh
  rw [tl_len] at h1
  cases ha : argsL (nsS s) (nsF s) (tl t) n e0 with
  | none => rw [ha] at hu; cases hu
  | some q =>
  obtain ⟨us, e1⟩ := q
  rw [ha] at hu
  simp only [Option.map_some, Option.some.injEq, Prod.mk.injEq] at hu
  obtain ⟨rfl, rfl⟩ := hu
  refine vref03_parseTerm_call ?_
  unfold vref03_parseTerm
  simp only [sm, w_agg, List.length_cons, List.length_nil, true_and, g_0, g_1]
  refine callS_of ?_
  rw [sm_eta]
  refine vref03_parseHead_c hs1 hs2 ht hi hh ?_
  simp only [w_tup, w_agg, List.length_cons, List.length_nil, List.getD_cons_zero, List.getD_cons_succ, true_and, g_0, g_1, g_2]
  refine ⟨by omega, by omega, by omega, ?_⟩
  refine loop_down (fun m σ h' => ∃ (at_ : Nat) (acc rest : List Tm) (x : AV) (els : List (List AV)), σ = [I at_, B true, I a.1, I a.2, x] ∧ SlO 3 els h x h' ∧ Le3 els (tmCs acc) ∧ argsL (nsS s) (nsF s) (tl t) m at_ = some (rest, e1) ∧ acc ++ rest = us ∧ at_ ≤ t.size ∧ m ≤ n ∧ acc.length + m ≤ n) n ⟨e0, [], us, .e0, [], rfl, SlO.nil 3, ⟨rfl, fun k hk => by simp [tmCs] at hk⟩, ha, rfl, h1.2, Nat.le_refl _, by simp⟩ ?_
  rintro m σ h' K ⟨at_, acc, rest, x, els, rfl, hs, hle, har, hacc, hat, hmn, hml⟩ hK
  cases m with
  | zero => simp [argsL] at har
  | succ m =>
  rw [argsL] at har
  simp only [g_0, g_1, g_2, g_3, g_4, w_brA, if_true]
  refine callS_of (vref03_begins_c (by omega) z1 (by omega) ?_)
  rw [w_brA, y1]
  by_cases b1 : begL (tl t) [32] at_ = true
  · rw [if_pos b1] at har ⊢
    have hb1 := begL_le b1
    rw [tl_len] at hb1
    simp only [List.length_cons, List.length_nil] at hb1
    refine callS_of (vref03_begins_c (by omega) z2 (by omega) ?_)
    rw [w_brA, y2]
    by_cases b2 : begL (tl t) [32, 40] at_ = true
    · rw [if_pos b2] at har ⊢
      have hb2 := begL_le b2
      rw [tl_len] at hb2
      simp only [List.length_cons, List.length_nil] at hb2
      cases htm : termL (nsS s) (nsF s) (tl t) m (at_ + 2) with
      | none => rw [htm] at har; cases har
      | some p =>
      obtain ⟨v, ev⟩ := p
      rw [htm] at har
      simp only [Option.bind_some] at har
      have hv := (termL_le m).1 (at_ + 2) v ev (by rw [tl_len]; omega) htm
      rw [tl_len] at hv
      split at har
      case isFalse => cases har
      rename_i hc
      simp only [Bool.and_eq_true, decide_eq_true_eq] at hc
      have hb3 := begL_le hc.2
      rw [tl_len] at hb3
      simp only [List.length_cons, List.length_nil] at hb3
      cases har2 : argsL (nsS s) (nsF s) (tl t) m (ev + 1) with
      | none => rw [har2] at har; cases har
      | some q =>
      obtain ⟨us', e2⟩ := q
      rw [har2] at har
      simp only [Option.map_some, Option.some.injEq, Prod.mk.injEq] at har
      obtain ⟨rfl, rfl⟩ := har
      rw [w_add, wrap_i64 (by omega) (by omega)]
      refine callS_of ?_
      have e22 : ((at_ : Int) + 2) = ((at_ + 2 : Nat) : Int) := by omega
      rw [e22]
      try rw [sm_eta]
      refine IH m (by omega) (by omega) (by omega) htm ?_
      rw [show tm v = .agg [I v.lab.1, I v.lab.2, .rs 3 (tmCs v.kids)] from (tm_eta v).symm]
      simp only [w_tup, w_agg, List.length_cons, List.length_nil, List.getD_cons_zero, List.getD_cons_succ, true_and, g_0, g_1, g_2, w_brA, if_true, w_len_rs, tmCs_len, w_gtr]
      refine ⟨by omega, by omega, by omega, ?_⟩
      rw [if_pos (by simp; omega)]
      refine callS_of (vref03_begins_c (by omega) z3 (by omega) ?_)
      rw [y3, hc.2, w_add, wrap_k (k := ev) (by omega)]
      have hel : els.length = acc.length := by rw [hle.1, tmCs_len]
      refine hs.app (by simp only [hel, List.length_cons, List.length_nil]; omega) fun x2 h3 hs2 => ?_
      rw [hs2.one]
      refine hK m _ _ (by omega) ⟨ev + 1, acc ++ [v], us', x2, _, rfl, hs2, ?_, har2, by rw [List.append_assoc]; exact hacc, by omega, by omega, by simp; omega⟩
      rw [tmCs_app1]
      exact hle.snoc rfl fun j => .inl rfl
    · rw [if_neg b2] at har ⊢
      cases hhd : headL (nsS s) (nsF s) (tl t) (at_ + 1) with
      | none => rw [hhd] at har; cases har
      | some p =>
      obtain ⟨b, eb⟩ := p
      rw [hhd] at har
      simp only [Option.bind_some] at har
      have hv := headL_le (by rw [tl_len]; omega) hhd
      rw [tl_len] at hv
      cases har2 : argsL (nsS s) (nsF s) (tl t) m eb with
      | none => rw [har2] at har; cases har
      | some q =>
      obtain ⟨us', e2⟩ := q
      rw [har2] at har
      simp only [Option.map_some, Option.some.injEq, Prod.mk.injEq] at har
      obtain ⟨rfl, rfl⟩ := har
      rw [w_add, wrap_k (k := at_) (by omega)]
      refine callS_of ?_
      try rw [sm_eta]
      refine vref03_parseHead_c hs1 hs2 ht (by omega) hhd ?_
      simp only [w_tup, w_agg, List.length_cons, List.length_nil, List.getD_cons_zero, List.getD_cons_succ, true_and, g_0, g_1, g_2]
      refine ⟨by omega, by omega, by omega, ?_⟩
      have hel : els.length = acc.length := by rw [hle.1, tmCs_len]
      refine hs.app (by simp only [hel, List.length_cons, List.length_nil]; omega) fun x2 h3 hs2 => ?_
      rw [hs2.one]
      refine hK m _ _ (by omega) ⟨eb, acc ++ [.mk b []], us', x2, _, rfl, hs2, ?_, har2, by rw [List.append_assoc]; exact hacc, by omega, by omega, by simp; omega⟩
      rw [tmCs_app1]
      refine hle.snoc rfl fun j => ?_
      match j with
      | 0 => exact .inl rfl
      | 1 => exact .inl rfl
      | 2 => exact .inr ⟨rfl, rfl⟩
      | j + 3 => exact .inl rfl
  · rw [if_neg b1] at har ⊢
    simp only [Option.some.injEq, Prod.mk.injEq] at har
    obtain ⟨rfl, rfl⟩ := har
    rw [List.append_nil] at hacc
    subst hacc
    obtain ⟨r1, r2⟩ := hle.freeze hs
    exact retA_wk (Ref.tups (.cons (Ref.aggs (.cons .refl (.cons .refl (.cons r1 .nil)))) (.cons .refl (.cons .refl .nil)))) r2 hq
end Am
set_option linter.unusedVariables false
set_option linter.unusedSimpArgs false
namespace Am
open Go Go.Proofs.Tryz
theorem vref01_Parse_c {t : ByteArray} (ht : t.size ≤ 100000) {n i k e : Nat} (hi : i ≤ t.size) (hn : n ≤ 100000) (hp : sortL n (tl t) i = some (k, e)) {h : Heap} {Q : AV → Heap → Prop} (hq : e ≤ t.size → i ≤ e → Q (.tup [.agg [.rs 1 (srCs (List.replicate k so))], I e, B true]) h) : ACalls prog n_vref01_Parse [S t, I i] h Q := by
  have y1 : tl (⟨#[111]⟩ : ByteArray) = [111] := rfl
  have y2 : tl (⟨#[32, 62, 32]⟩ : ByteArray) = [32, 62, 32] := rfl
  have z1 : (⟨#[111]⟩ : ByteArray).size ≤ 1000000 := by decide
  have z2 : (⟨#[32, 62, 32]⟩ : ByteArray).size ≤ 1000000 := by decide
  refine vref01_Parse_call ?_
  unfold vref01_Parse
  refine loop_down (fun m σ h' => ∃ (at_ acc rest : Nat) (x : AV), σ = [I at_, .e0, x] ∧ SlO 1 (List.replicate acc [.e0]) h x h' ∧ sortL m (tl t) at_ = some (rest, e) ∧ acc + rest = k ∧ at_ ≤ t.size ∧ i ≤ at_ ∧ acc + m ≤ n) n ⟨i, 0, k, .e0, rfl, SlO.nil 1, hp, by omega, hi, Nat.le_refl _, by omega⟩ ?_
  rintro m σ h' K ⟨at_, acc, rest, x, rfl, hs, hm, hk, hat, hia, hml⟩ hK
  cases m with
  | zero => simp [sortL] at hm
  | succ m =>
  rw [sortL] at hm
  by_cases b1 : begL (tl t) [111] at_ = true
  case neg => rw [if_neg b1] at hm; cases hm
  rw [if_pos b1] at hm
  have hb1 := begL_le b1
  rw [tl_len] at hb1
  simp only [List.length_cons, List.length_nil] at hb1
  simp only [g_0, g_1, g_2]
  refine callS_of (vref01_begins_c (by omega) z1 (by omega) ?_)
  rw [w_brA, y1, if_pos b1, w_add, wrap_k (k := at_) (by omega)]
  refine callS_of (vref01_begins_c (by omega) z2 (by omega) ?_)
  rw [w_notA, w_brA, y2]
  by_cases b2 : begL (tl t) [32, 62, 32] (at_ + 1) = true
  · rw [if_pos b2] at hm
    have hb2 := begL_le b2
    rw [tl_len] at hb2
    simp only [List.length_cons, List.length_nil] at hb2
    cases hr : sortL m (tl t) (at_ + 4) with
    | none => rw [hr] at hm; cases hm
    | some p =>
      obtain ⟨r, e2⟩ := p
      rw [hr] at hm
      simp only [Option.map_some, Option.some.injEq, Prod.mk.injEq] at hm
      obtain ⟨rfl, rfl⟩ := hm
      rw [b2]
      simp only [Bool.not_true, Bool.false_eq_true, if_false]
      refine hs.app (by simp; omega) fun x2 h3 hs2 => ?_
      rw [hs2.one, w_add, wrap_i64 (by omega) (by omega)]
      have e22 : (((at_ + 1 : Nat) : Int) + 3) = ((at_ + 4 : Nat) : Int) := by omega
      rw [e22]
      refine hK m _ _ (by omega) ⟨at_ + 4, acc + 1, r, x2, rfl, ?_, hr, by omega, by omega, by omega, by omega⟩
      rw [List.replicate_succ']; exact hs2
  · rw [if_neg b2] at hm
    simp only [Option.some.injEq, Prod.mk.injEq] at hm
    obtain ⟨rfl, rfl⟩ := hm
    have b3 : begL (tl t) [32, 62, 32] (at_ + 1) = false := by cases hh : begL (tl t) [32, 62, 32] (at_ + 1) with
      | false => rfl
      | true => exact absurd hh b2
    rw [b3]
    simp only [Bool.not_false, if_true]
    have hk2 : acc = k := by omega
    subst hk2
    refine retA_wk (Ref.tups (.cons (Ref.aggs (.cons ?_ .nil)) (.cons .refl (.cons .refl .nil)))) hs.href (hq (by omega) (by omega))
    rcases hs with ⟨he, rfl, rfl⟩ | ⟨hne, id, hi, rfl, rfl⟩
    · have : acc = 0 := by have := congrArg List.length he; simpa using this
      subst this; exact .e0
    · refine .frz (Heap.set_same _ _ _) hi (Nat.le_refl _) (by simp) (fun j hj => srCs_sz _ j (by simpa using hj)) fun j q hj hq => ?_
      have hj' : j < acc := by simpa using hj
      have hq' : q = 0 := by omega
      subst hq'
      rw [srCs_get (by simpa using hj')]
      simp only [List.getD_eq_getElem?_getD, List.getElem?_replicate, hj', if_true, Option.getD_some, g_0, List.getElem_replicate]
      exact .e0
def Ow (h h' : Heap) (sz : Nat) (els : List (List AV)) (x : AV) : Prop := (els = [] ∧ x = .e0) ∨ (els ≠ [] ∧ ∃ id, x = .os id els.length ∧ h' id = some (.arr sz els) ∧ h id = none)
theorem Ow.one {h h' : Heap} {sz : Nat} {els : List (List AV)} {x : AV} (H : Ow h h' sz els x) (k : Prop) : oneA x k = k := by
  rcases H with ⟨rfl, rfl⟩ | ⟨hne, id, rfl, _⟩ <;> rfl
theorem Ow.app {h h' : Heap} {sz bytes : Nat} {els ys : List (List AV)} {x : AV} {K : AV → Heap → Prop} (H : Ow h h' sz els x) (hy : ys ≠ []) (hfr : ∀ j n, h j = some n → h' j = some n) (hz : (els.length + ys.length) * bytes ≤ 140737488355328)
    (hk : ∀ x2 h2, Ow h h2 sz (els ++ ys) x2 → (∀ j n, h j = some n → h2 j = some n) → (∀ sz' els' x', sz' ≠ sz → Ow h h' sz' els' x' → Ow h h2 sz' els' x') → K x2 h2) : appA sz bytes x (.rs sz ys) h' K := by
  unfold appA srcA
  refine ⟨rfl, ?_⟩
  rcases H with ⟨rfl, rfl⟩ | ⟨hne, id, rfl, hi, hn⟩
  · refine ⟨by simpa using hz, fun e => absurd e hy, fun _ id hid => hk _ _ (.inr ⟨by simpa using hy, id, by simp, by simp [Heap.set_same], ?_⟩) (fun j n hj => ?_) fun sz' els' x' hne H' => ?_⟩
    · cases e : h id with
      | none => rfl
      | some n => have := hfr id n e; rw [hid] at this; cases this
    · rw [Heap.set_ne]; exact hfr j n hj
      rintro rfl; have := hfr j n hj; rw [hid] at this; cases this
    · rcases H' with H' | ⟨a, i2, b, c, d⟩
      · exact .inl H'
      · refine .inr ⟨a, i2, b, ?_, d⟩
        rw [Heap.set_ne]; exact c
        rintro rfl; rw [hid] at c; cases c
  · simp only [hi]
    refine ⟨trivial, Nat.le_refl _, hz, fun id' hid' => ?_⟩
    rw [List.take_length]
    have hn' : h id' = none := by
      by_cases e : id' = id
      · subst e; exact hn
      · rw [Heap.del_ne e] at hid'
        cases e : h id' with
        | none => rfl
        | some n => have := hfr id' n e; rw [hid'] at this; cases this
    refine hk _ _ (.inr ⟨by simp [hne], id', by simp, Heap.set_same _ _ _, hn'⟩) (fun j n hj => ?_) fun sz' els' x' hsz H' => ?_
    · have a1 : j ≠ id' := fun e => by subst e; rw [hn'] at hj; cases hj
      have a2 : j ≠ id := fun e => by subst e; rw [hn] at hj; cases hj
      rw [Heap.set_ne a1, Heap.del_ne a2]; exact hfr j n hj
    · rcases H' with H' | ⟨a, i2, b, c, d⟩
      · exact .inl H'
      · have n1 : i2 ≠ id := fun e => by subst e; rw [hi] at c; cases c; exact hsz rfl
        have n2 : i2 ≠ id' := fun e => by subst e; rw [Heap.del_ne n1] at hid'; rw [hid'] at c; cases c
        exact .inr ⟨a, i2, b, by rw [Heap.set_ne n2, Heap.del_ne n1]; exact c, d⟩
theorem Ow.freeze {h h' : Heap} {sz : Nat} {els cs : List (List AV)} {x : AV} (H : Ow h h' sz els x) (hl : cs.length = els.length) (hz : ∀ i, i < els.length → (cs.getD i []).length = sz) (hr : ∀ i j, i < els.length → j < sz → Ref h' h (g (els.getD i []) j) (g (cs.getD i []) j)) : Ref h' h x (.rs sz cs) := by
  rcases H with ⟨rfl, rfl⟩ | ⟨hne, id, rfl, hi, hn⟩
  · have : cs = [] := List.eq_nil_of_length_eq_zero (by rw [hl]; rfl)
    subst this; exact .e0
  · exact .frz hi hn (Nat.le_refl _) hl hz hr
end Am
set_option linter.unusedVariables false
set_option linter.unusedSimpArgs false
namespace Am
open Go Go.Proofs.Tryz
def bcut (t : Tx) (i j : Nat) : ByteArray := ⟨(cut t i j).toArray⟩
theorem extract_bcut (t : ByteArray) (i j : Nat) : t.extract i j = bcut (tl t) i j := by
  have := cut_extract t i j
  unfold bcut; rw [← this]
def symL : Nat → Tx → Nat → Option (List Sy × Nat)
  | 0, _, _ => none
  | n + 1, t, i => if begL t [115, 121, 109, 98, 111, 108, 32] i = true then
      (if (nameB (bcut t (i + 7) (wordL t (i + 7))) && begL t [32] (wordL t (i + 7))) = true then
        (numL t (wordL t (i + 7) + 1)).bind fun k => if begL t [10] (wordL t (i + 7) + 2) = true then (symL n t (wordL t (i + 7) + 3)).map fun p => ((bcut t (i + 7) (wordL t (i + 7)), (k : Int)) :: p.1, p.2) else none
      else none)
    else some ([], i)
def lineL (t : Tx) (i : Nat) : Nat := i + ((t.drop i).takeWhile fun c => !decide (c.toNat = 10)).length
abbrev Fl := ByteArray × Nat × Nat
def funL : Nat → Tx → Nat → Option (List Fl)
  | 0, _, _ => none
  | n + 1, t, i => if begL t [102, 117, 110, 32] i = true then
      (if (nameB (bcut t (i + 4) (wordL t (i + 4))) && begL t [32, 58, 32] (wordL t (i + 4))) = true then
        (sortL 100 t (wordL t (i + 4) + 3)).bind fun p => if (begL t [32, 61, 32] p.2 && decide (lineL t p.2 < t.length)) = true then (funL n t (lineL t p.2 + 1)).map fun r => (bcut t (i + 4) (wordL t (i + 4)), p.1, p.2 + 3) :: r else none
      else none)
    else (if i = t.length then some [] else none)
theorem lineL_step {t : Tx} {j : Nat} (hj : j < t.length) : lineL t j = if (t.getD j 0).toNat = 10 then j else lineL t (j + 1) := by
  unfold lineL
  rw [List.drop_eq_getElem_cons hj, List.takeWhile_cons]
  have : t.getD j 0 = t[j] := by simp [List.getD_eq_getElem?_getD, hj]
  rw [this]
  by_cases e : t[j].toNat = 10 <;> simp [e] <;> omega
theorem lineL_end {t : Tx} {j : Nat} (hj : t.length ≤ j) : lineL t j = j := by
  unfold lineL
  rw [List.drop_of_length_le hj]; rfl
def mkF (f : Fl) : Fn := ⟨f.1, .mk () (List.replicate f.2.1 so), .mk (0, 0) []⟩
def flO (l : List Fl) : List (List AV) := l.map fun f => [S f.1, .rs 1 (srCs (List.replicate f.2.1 so)), I 0, I 0, .e0]
abbrev Fr (h h' : Heap) : Prop := ∀ j n, h j = some n → h' j = some n
theorem vref03_names_c {t : ByteArray} (ht : t.size ≤ 100000) {n e : Nat} (hn : n ≤ 100000) {sy : List Sy} {fs : List Fl} (h1 : symL n (tl t) 0 = some (sy, e)) (h2 : funL n (tl t) e = some fs) {h : Heap} {Q : AV → Heap → Prop} (hq : Q (.tup [sm ⟨sy, fs.map mkF⟩, .rs 1 (nCs (fs.map (·.2.2))), B true]) h) : ACalls prog n_vref03_names [S t] h Q := by
  have y1 : tl (⟨#[115, 121, 109, 98, 111, 108, 32]⟩ : ByteArray) = [115, 121, 109, 98, 111, 108, 32] := rfl
  have y2 : tl (⟨#[32]⟩ : ByteArray) = [32] := rfl
  have y3 : tl (⟨#[10]⟩ : ByteArray) = [10] := rfl
  have y4 : tl (⟨#[102, 117, 110, 32]⟩ : ByteArray) = [102, 117, 110, 32] := rfl
  have y5 : tl (⟨#[32, 58, 32]⟩ : ByteArray) = [32, 58, 32] := rfl
  have y6 : tl (⟨#[32, 61, 32]⟩ : ByteArray) = [32, 61, 32] := rfl
  have z1 : (⟨#[115, 121, 109, 98, 111, 108, 32]⟩ : ByteArray).size ≤ 1000000 := by decide
  have z2 : (⟨#[32]⟩ : ByteArray).size ≤ 1000000 := by decide
  have z3 : (⟨#[10]⟩ : ByteArray).size ≤ 1000000 := by decide
  have z4 : (⟨#[102, 117, 110, 32]⟩ : ByteArray).size ≤ 1000000 := by decide
  have z5 : (⟨#[32, 58, 32]⟩ : ByteArray).size ≤ 1000000 := by decide
  have z6 : (⟨#[32, 61, 32]⟩ : ByteArray).size ≤ 1000000 := by decide
  refine vref03_names_call ?_
  unfold vref03_names
  refine loop_down (fun m σ h' => ∃ (at_ : Nat) (acc rest : List Sy) (x : AV), σ = [I at_, .e0, .e0, x, .e0] ∧ Ow h h' 2 (syCs acc) x ∧ Fr h h' ∧ symL m (tl t) at_ = some (rest, e) ∧ acc ++ rest = sy ∧ at_ ≤ t.size ∧ acc.length + m ≤ n) n ⟨0, [], sy, .e0, rfl, .inl ⟨rfl, rfl⟩, fun _ _ h => h, h1, rfl, by omega, by simp⟩ ?_
  rintro m σ h' K ⟨at_, acc, rest, x, rfl, ox, hfr, hs, hacc, hat, hml⟩ hK
  cases m with
  | zero => simp [symL] at hs
  | succ m =>
  rw [symL] at hs
  simp only [g_0, g_1, g_2, g_3, g_4]
  refine callS_of (vref03_begins_c (by omega) z1 (by omega) ?_)
  rw [w_brA, y1]
  by_cases b1 : begL (tl t) [115, 121, 109, 98, 111, 108, 32] at_ = true
  · rw [if_pos b1] at hs ⊢
    have hb1 := begL_le b1
    rw [tl_len] at hb1
    simp only [List.length_cons, List.length_nil] at hb1
    have hw := wordL_le (t := tl t) (at_ + 7) (by rw [tl_len]; omega)
    rw [tl_len] at hw
    have e7 : ((at_ : Int) + 7) = ((at_ + 7 : Nat) : Int) := by omega
    rw [w_add, wrap_i64 (by omega) (by omega), e7]
    refine callS_of (vref03_word_c (by omega) (by omega) ?_)
    generalize hww : wordL (tl t) (at_ + 7) = wd at *
    rw [w_add, wrap_i64 (by omega) (by omega), e7]
    refine ⟨rfl, by omega, by omega, by omega, ?_⟩
    rw [Int.toNat_natCast, Int.toNat_natCast, extract_bcut]
    refine callS_of (vref02_Name_c _ ?_)
    split at hs
    case isFalse => cases hs
    rename_i c1
    simp only [Bool.and_eq_true] at c1
    rw [c1.1, w_notA, w_brA, if_neg (by decide)]
    refine callS_of (vref03_begins_c (by omega) z2 (by omega) ?_)
    rw [y2, c1.2, w_notA, w_brA, if_neg (by decide), w_add, wrap_k (k := wd) (by omega)]
    cases hk : numL (tl t) (wd + 1) with
    | none => rw [hk] at hs; cases hs
    | some k =>
    rw [hk] at hs
    simp only [Option.bind_some] at hs
    refine callS_of (vref03_number_c (by omega) hk ?_)
    simp only [w_tup, List.length_cons, List.length_nil, List.getD_cons_zero, List.getD_cons_succ]
    refine ⟨by omega, by omega, by omega, ?_⟩
    rw [w_notA, w_brA, if_neg (by decide)]
    split at hs
    case isFalse => cases hs
    rename_i c2
    have hb2 := begL_le c2
    rw [tl_len] at hb2
    simp only [List.length_cons, List.length_nil] at hb2
    refine callS_of (vref03_begins_c (by omega) z3 (by omega) ?_)
    rw [y3, show wd + 1 + 1 = wd + 2 from rfl, c2, w_notA, w_brA, if_neg (by decide)]
    simp only [w_one_v]
    cases hr : symL m (tl t) (wd + 3) with
    | none => rw [hr] at hs; cases hs
    | some p =>
    obtain ⟨r, e2⟩ := p
    rw [hr] at hs
    simp only [Option.map_some, Option.some.injEq, Prod.mk.injEq] at hs
    obtain ⟨rfl, rfl⟩ := hs
    refine ox.app (by simp) hfr (by simp only [syCs_len, List.length_cons, List.length_nil]; omega) fun x2 h3 ox2 hfr2 _ => ?_
    rw [ox2.one, w_add, wrap_k (k := wd + 2) (by omega)]
    refine hK m _ _ (by omega) ⟨wd + 3, acc ++ [(bcut (tl t) (at_ + 7) wd, (k : Int))], r, x2, rfl, ?_, hfr2, hr, by rw [List.append_assoc]; exact hacc, by omega, by simp; omega⟩
    have : syCs (acc ++ [(bcut (tl t) (at_ + 7) wd, (k : Int))]) = syCs acc ++ [[S (bcut (tl t) (at_ + 7) wd), I k]] := by simp [syCs]
    rw [this]; exact ox2
  · rw [if_neg b1] at hs ⊢
    simp only [Option.some.injEq, Prod.mk.injEq] at hs
    obtain ⟨rfl, rfl⟩ := hs
    rw [List.append_nil] at hacc
    subst hacc
    clear hK K h1 b1 hml m
    refine loop_down (fun m σ h' => ∃ (at_ : Nat) (ac rest : List Fl) (y z : AV), σ = [z, I at_, .e0, .e0, x, y] ∧ Ow h h' 2 (syCs acc) x ∧ Ow h h' 5 (flO ac) y ∧ Ow h h' 1 (nCs (ac.map (·.2.2))) z ∧ Fr h h' ∧ funL m (tl t) at_ = some rest ∧ ac ++ rest = fs ∧ at_ ≤ t.size ∧ ac.length + m ≤ n) n ⟨at_, [], fs, .e0, .e0, rfl, ox, .inl ⟨rfl, rfl⟩, .inl ⟨rfl, rfl⟩, hfr, h2, rfl, hat, by simp⟩ ?_
    rintro m σ h' K ⟨at_, ac, rest, y, z, rfl, ox, oy, oz, hfr, hs, hacc, hat, hml⟩ hK
    cases m with
    | zero => simp [funL] at hs
    | succ m =>
    rw [funL] at hs
    simp only [g_0, g_1, g_2, g_3, g_4, g_s]
    refine callS_of (vref03_begins_c (by omega) z4 (by omega) ?_)
    rw [w_brA, y4]
    by_cases b1 : begL (tl t) [102, 117, 110, 32] at_ = true
    · rw [if_pos b1] at hs ⊢
      have hb1 := begL_le b1
      rw [tl_len] at hb1
      simp only [List.length_cons, List.length_nil] at hb1
      have hw := wordL_le (t := tl t) (at_ + 4) (by rw [tl_len]; omega)
      rw [tl_len] at hw
      have e7 : ((at_ : Int) + 4) = ((at_ + 4 : Nat) : Int) := by omega
      rw [w_add, wrap_i64 (by omega) (by omega), e7]
      refine callS_of (vref03_word_c (by omega) (by omega) ?_)
      generalize hww : wordL (tl t) (at_ + 4) = wd at *
      rw [w_add, wrap_i64 (by omega) (by omega), e7]
      refine ⟨rfl, by omega, by omega, by omega, ?_⟩
      rw [Int.toNat_natCast, Int.toNat_natCast, extract_bcut]
      refine callS_of (vref02_Name_c _ ?_)
      split at hs
      case isFalse => cases hs
      rename_i c1
      simp only [Bool.and_eq_true] at c1
      have hb3 := begL_le c1.2
      rw [tl_len] at hb3
      simp only [List.length_cons, List.length_nil] at hb3
      rw [c1.1, w_notA, w_brA, if_neg (by decide)]
      refine callS_of (vref03_begins_c (by omega) z5 (by omega) ?_)
      have e3 : ((wd : Int) + 3) = ((wd + 3 : Nat) : Int) := by omega
      rw [y5, c1.2, w_notA, w_brA, if_neg (by decide), w_add, wrap_i64 (by omega) (by omega), e3]
      cases hp : sortL 100 (tl t) (wd + 3) with
      | none => rw [hp] at hs; cases hs
      | some p =>
      obtain ⟨k, e4⟩ := p
      rw [hp] at hs
      simp only [Option.bind_some] at hs
      refine callS_of (vref01_Parse_c ht (by omega) (by omega) hp fun le1 le2 => ?_)
      simp only [w_tup, w_agg, List.length_cons, List.length_nil, List.getD_cons_zero, List.getD_cons_succ, g_0]
      refine ⟨by omega, by omega, by omega, trivial, ?_⟩
      rw [w_notA, w_brA, if_neg (by decide)]
      split at hs
      case isFalse => cases hs
      rename_i c2
      simp only [Bool.and_eq_true, decide_eq_true_eq] at c2
      obtain ⟨c2, c3⟩ := c2
      have hb2 := begL_le c2
      rw [tl_len] at hb2 c3
      simp only [List.length_cons, List.length_nil] at hb2
      refine callS_of (vref03_begins_c (by omega) z6 (by omega) ?_)
      rw [y6, c2, w_notA, w_brA, if_neg (by decide)]
      simp only [w_one_v]
      have leny : (flO ac).length = ac.length := by simp [flO]
      have lenz : (nCs (ac.map (·.2.2))).length = ac.length := by simp [nCs]
      refine oy.app (by simp) hfr (by simp only [leny, List.length_cons, List.length_nil]; omega) fun y2 h3 oy2 hfr2 ot => ?_
      have ox2 := ot _ _ _ (by decide) ox
      have oz2 := ot _ _ _ (by decide) oz
      have e8 : ((e4 : Int) + 3) = ((e4 + 3 : Nat) : Int) := by omega
      rw [oy2.one, w_add, wrap_i64 (by omega) (by omega), e8]
      simp only [w_one_v]
      refine oz2.app (by simp) hfr2 (by simp only [lenz, List.length_cons, List.length_nil]; omega) fun z2 h4 oz3 hfr3 ot2 => ?_
      have ox3 := ot2 _ _ _ (by decide) ox2
      have oy3 := ot2 _ _ _ (by decide) oy2
      cases hr : funL m (tl t) (lineL (tl t) e4 + 1) with
      | none => rw [hr] at hs; cases hs
      | some r =>
      rw [hr] at hs
      simp only [Option.map_some, Option.some.injEq] at hs
      subst hs
      refine loop_down (fun m2 σ h' => ∃ j : Nat, σ = [I j] ∧ h' = h4 ∧ m2 = t.size - j ∧ j ≤ t.size ∧ lineL (tl t) j = lineL (tl t) e4) (t.size - e4) ⟨e4, rfl, rfl, rfl, by omega, rfl⟩ ?_
      rintro m2 σ h5 K2 ⟨j, rfl, rfl, rfl, hj, hl⟩ hK2
      have hjlt : j < t.size := by
        rcases Nat.lt_or_ge j t.size with h | h
        · exact h
        · rw [lineL_end (by rw [tl_len]; exact h)] at hl; omega
      have hjlt' : (j : Int) < t.size := by omega
      have hst := lineL_step (t := tl t) (j := j) (by rw [tl_len]; exact hjlt)
      simp only [g_0, w_lenS, w_lss, hjlt', decide_true, w_brA, if_true]
      refine ⟨by omega, hjlt', ?_⟩
      rw [Int.toNat_natCast]
      show binA BinOp.neq (.val (.int .u8 (((tl t).getD j 0).toNat))) _ _
      generalize ((tl t).getD j 0).toNat = c at hst ⊢
      rw [w_neq, w_brA]
      by_cases b : c = 10
      · rw [if_neg (by simp; omega), w_eql, w_brA, if_neg (by simp; omega), w_add, wrap_k (k := j) (by omega)]
        rw [if_pos b] at hst
        refine hK m _ _ (by omega) ⟨j + 1, ac ++ [(bcut (tl t) (at_ + 4) wd, k, e4 + 3)], r, y2, z2, rfl, ox3, ?_, ?_, hfr3, by rw [← hr]; congr 1; omega, by rw [List.append_assoc]; exact hacc, by omega, by simp; omega⟩
        · have : flO (ac ++ [(bcut (tl t) (at_ + 4) wd, k, e4 + 3)]) = flO ac ++ [[S (bcut (tl t) (at_ + 4) wd), .rs 1 (srCs (List.replicate k so)), I 0, I 0, .e0]] := by simp [flO]
          rw [this]; exact oy3
        · have : nCs ((ac ++ [(bcut (tl t) (at_ + 4) wd, k, e4 + 3)]).map (·.2.2)) = nCs (ac.map (·.2.2)) ++ [[I ((e4 + 3 : Nat) : Int)]] := by simp [nCs]
          rw [this]; exact oz3
      · rw [if_pos (by simp; omega), w_add, wrap_k (k := j) (by omega)]
        rw [if_neg b] at hst
        exact hK2 (t.size - (j + 1)) _ _ (by omega) ⟨j + 1, rfl, rfl, rfl, by omega, by rw [← hst]; exact hl⟩
    · rw [if_neg b1] at hs ⊢
      split at hs
      case isFalse => cases hs
      rename_i hend
      cases hs
      rw [List.append_nil] at hacc
      subst hacc
      rw [tl_len] at hend
      subst hend
      rw [w_lenS, w_eql, decide_eq_true rfl]
      refine retA_wk (Ref.tups (.cons (Ref.aggs (.cons (ox.freeze rfl (fun i hi => ?_) fun i j hi hj => .refl) (.cons (oy.freeze (by simp [flO]) (fun i hi => ?_) fun i j hi hj => ?_) .nil))) (.cons (oz.freeze rfl (fun i hi => ?_) fun i j hi hj => .refl) (.cons .refl .nil)))) (HRef.sub hfr) hq
      · have hi' : i < acc.length := by simpa using hi
        simp [syCs, List.getD_eq_getElem?_getD, hi']
      · have hi' : i < ac.length := by simpa [flO] using hi
        simp [fnCs, fnC, List.getD_eq_getElem?_getD, hi']
      · have hi' : i < ac.length := by simpa [flO] using hi
        simp only [flO, fnCs, fnC, mkF, List.getD_eq_getElem?_getD, List.getElem?_map, List.getElem?_eq_getElem hi', Option.map_some, Option.getD_some]
        match j with
        | 0 => exact .refl
        | 1 => exact .refl
        | 2 => exact .refl
        | 3 => exact .refl
        | 4 => exact .e0
        | j + 5 => exact .refl
      · have hi' : i < ac.length := by simpa [nCs] using hi
        simp [nCs, List.getD_eq_getElem?_getD, hi']
end Am
set_option linter.unusedVariables false
set_option linter.unusedSimpArgs false
namespace Am
open Go Go.Proofs.Tryz
theorem loop_upW {h : Heap} {body : List AV → Heap → (List AV → Heap → Prop) → Prop} {σ : List AV} (n : Nat) (I : Nat → List AV → Heap → Prop) (h0 : Wk σ h (I 0)) (hlen : ∀ k σ' h', I k σ' h' → σ'.length = σ.length)
    (step : ∀ k σ' h' K, k ≤ n → I k σ' h' → (k < n → ∀ σ'' h'', Wk σ'' h'' (I (k + 1)) → K σ'' h'') → body σ' h' K) : loopS body σ h := by
  have mono : ∀ (k m : Nat) σ h, k + m = n → Wk σ h (I k) → Wk σ h (fun σ h => ∃ k, k + m = n ∧ I k σ h) := fun k m σ h hk ⟨a, b, c, d, e, f⟩ => ⟨a, b, c, d, e, k, hk, f⟩
  refine ⟨fun m σ h => ∃ k, k + m = n ∧ I k σ h, ?_, ?_⟩
  · obtain ⟨a, b, c, d, e, f⟩ := h0
    exact ⟨a, b, c, d, e, n, 0, by omega, f⟩
  rintro m σ' h' ⟨k, hk, hi⟩ hl
  refine step k σ' h' _ (by omega) hi fun hlt σ'' h'' ⟨a, b, c, d, e, f⟩ => ?_
  exact ⟨a, b, c, d, e, m - 1, by omega, k + 1, by omega, f⟩
def bodyL (ns fs : List ByteArray) (n : Nat) (t : Tx) : List Fl → Option (List Tm)
  | [] => some []
  | f :: r => (termL ns fs t n f.2.2).bind fun p => if begL t [10] p.2 = true then (bodyL ns fs n t r).map fun us => p.1 :: us else none
theorem bodyL_get {ns fs : List ByteArray} {n : Nat} {t : Tx} {l : List Fl} : ∀ {us : List Tm}, bodyL ns fs n t l = some us → us.length = l.length ∧ ∀ k (hk : k < l.length) (hu : k < us.length), ∃ e, termL ns fs t n l[k].2.2 = some (us[k], e) ∧ begL t [10] e = true := by
  induction l with
  | nil => intro us h; cases h; exact ⟨rfl, fun k hk => absurd hk (by simp)⟩
  | cons f r ih =>
    intro us h
    rw [bodyL] at h
    cases ht : termL ns fs t n f.2.2 with
    | none => rw [ht] at h; cases h
    | some p =>
    rw [ht] at h
    simp only [Option.bind_some] at h
    split at h
    case isFalse => cases h
    rename_i c
    cases hb : bodyL ns fs n t r with
    | none => rw [hb] at h; cases h
    | some us' =>
    rw [hb] at h
    cases h
    obtain ⟨a, b⟩ := ih hb
    refine ⟨by simp [a], fun k hk hu => ?_⟩
    cases k with
    | zero => exact ⟨p.2, by simpa using ht, c⟩
    | succ k => exact b k (by simpa using hk) (by simpa using hu)
def getF (l : List Fl) (us : List Tm) : List Fn := (l.zip us).map fun p => ⟨p.1.1, .mk () (List.replicate p.1.2.1 so), p.2⟩
theorem getF_len {l : List Fl} {us : List Tm} (h : us.length = l.length) : (getF l us).length = l.length := by simp [getF, h]
theorem getF_get {l : List Fl} {us : List Tm} {k : Nat} (h : us.length = l.length) (hk : k < l.length) : (getF l us)[k]'(by rw [getF_len h]; exact hk) = ⟨l[k].1, .mk () (List.replicate l[k].2.1 so), us[k]'(by rw [h]; exact hk)⟩ := by simp [getF]
theorem names_mkF (sy : List Sy) (l : List Fl) : nsF ⟨sy, l.map mkF⟩ = l.map (·.1) := by simp [nsF, mkF]
theorem vref03_Get_c {t : ByteArray} (ht : t.size ≤ 60000) {e : Nat} {sy : List Sy} {fs : List Fl} {us : List Tm} (n : Nat) (hn : n ≤ 100000) (h1 : symL n (tl t) 0 = some (sy, e)) (h2 : funL n (tl t) e = some fs)
    (h3 : bodyL (sy.map (·.1)) (fs.map (·.1)) n (tl t) fs = some us) (hfew : fs.length ≤ 64) (hsy : sy.length ≤ 64) (hbt : ∀ f, f ∈ fs → f.2.2 ≤ t.size) (hok : schB ⟨sy, getF fs us⟩ = true)
    {h : Heap} {Q : AV → Heap → Prop} (hq : Q (.tup [sm ⟨sy, getF fs us⟩, I 0]) h) : ACalls prog n_vref03_Get [S t] h Q := by
  have y3 : tl (⟨#[10]⟩ : ByteArray) = [10] := rfl
  have z3 : (⟨#[10]⟩ : ByteArray).size ≤ 1000000 := by decide
  obtain ⟨hus, hbs⟩ := bodyL_get h3
  refine vref03_Get_call ?_
  unfold vref03_Get
  rw [w_lenS, w_gtr, w_brA, if_neg (by simp; omega)]
  refine callS_of (vref03_names_c (by omega) hn h1 h2 ?_)
  simp only [w_tup, w_agg, sm, List.length_cons, List.length_nil, List.getD_cons_zero, List.getD_cons_succ, true_and, g_0, g_1]
  refine ⟨by omega, by omega, by omega, ?_⟩
  rw [w_notA, w_brA, if_neg (by decide), w_len_rs, fnCs_len, List.length_map]
  have hpos : 0 < fs.length := by
    have := ((schB_iff _).1 hok).pos
    rw [getF_len hus] at this; omega
  refine loop_upW fs.length (fun k σ h' => ∃ x, σ = [x, I k, .e0, .e0] ∧ if k < fs.length then SlO 5 (fnCs ((getF fs us).take k)) h x h' else x = .rs 5 (fnCs (getF fs us)) ∧ h' = h) (Wk.refl ⟨.e0, rfl, by rw [if_pos hpos]; exact SlO.nil 5⟩) (fun k σ' h' ⟨x, e, _⟩ => by rw [e]; rfl) ?_
  rintro k σ h' K hk ⟨x, rfl, hs⟩ hK
  by_cases hlt : k < fs.length
  · rw [if_pos hlt] at hs
    have hlt' : (k : Int) < fs.length := by omega
    have hku : k < us.length := by omega
    obtain ⟨e1, t1, t2⟩ := hbs k hlt hku
    have hbk := hbt _ (List.getElem_mem hlt)
    simp only [g_0, g_1, g_2, g_3, w_lss, hlt', decide_true, w_brA, if_true, w_idx_rs, w_loadG_ro]
    have gk : (fnCs (fs.map mkF)).getD k [] = [S fs[k].1, .rs 1 (srCs (List.replicate fs[k].2.1 so)), I 0, I 0, .rs 3 []] := by
      simp [fnCs, List.getD_eq_getElem?_getD, hlt, fnC, mkF, srC, Rt.lab, Rt.kids, tmCs]
    have gb : (nCs (fs.map (·.2.2))).getD k [] = [I (fs[k].2.2 : Nat)] := by
      simp [nCs, List.getD_eq_getElem?_getD, hlt]
    refine ⟨trivial, by omega, by simpa using hlt, ?_⟩
    rw [Int.toNat_natCast, gk]
    simp only [w_loadG_ro, List.length_cons, List.length_nil]
    refine ⟨by omega, trivial, by omega, by simpa [nCs] using hlt, ?_⟩
    rw [gb, w_loadV_ro]
    refine callS_of ?_
    have hnF : nsF (⟨sy, fs.map mkF⟩ : Sch) = fs.map (·.1) := names_mkF _ _
    show ACalls prog n_vref03_parseTerm [sm ⟨sy, fs.map mkF⟩, S t, I (fs[k].2.2 : Nat)] h' _
    refine vref03_parseTerm_c (s := ⟨sy, fs.map mkF⟩) (by simp; omega) (by simp; omega) (by omega) n hn hbk (by rw [hnF]; exact t1) ?_
    rw [show tm us[k] = .agg [I (us[k]).lab.1, I (us[k]).lab.2, .rs 3 (tmCs (us[k]).kids)] from (tm_eta us[k]).symm]
    simp only [w_tup, w_agg, List.length_cons, List.length_nil, List.getD_cons_zero, List.getD_cons_succ, true_and, g_0, g_1, g_2]
    refine ⟨by omega, by omega, by omega, ?_⟩
    rw [w_notA, w_brA, if_neg (by decide)]
    have he1 := begL_le t2
    rw [tl_len] at he1
    simp only [List.length_cons, List.length_nil] at he1
    refine callS_of (vref03_begins_c (by omega) z3 (by omega) ?_)
    rw [y3, t2, w_notA, w_brA, if_neg (by decide), w_one_v]
    refine hs.app (by simp only [fnCs_len, List.length_take, List.length_cons, List.length_nil]; omega) fun x2 h4 hs2 => ?_
    rw [w_add, wrap_k (k := k) (by omega)]
    have : fnCs ((getF fs us).take (k + 1)) = fnCs ((getF fs us).take k) ++ [[S fs[k].1, .rs 1 (srCs (List.replicate fs[k].2.1 so)), I (us[k]).lab.1, I (us[k]).lab.2, .rs 3 (tmCs (us[k]).kids)]] := by
      rw [List.take_succ_eq_append_getElem (by rw [getF_len hus]; exact hlt), getF_get hus hlt]
      simp [fnCs, fnC, srC]
    rw [← this] at hs2
    by_cases hl1 : k + 1 < fs.length
    · exact hK hlt _ _ (Wk.refl ⟨x2, rfl, by rw [if_pos hl1]; exact hs2⟩)
    · have ht : (getF fs us).take (k + 1) = getF fs us := List.take_of_length_le (by rw [getF_len hus]; omega)
      rw [ht] at hs2
      obtain ⟨r1, r2⟩ := hs2.wk fun i hi => by
        have hi' : i < (getF fs us).length := by simpa using hi
        simp [fnCs, List.getD_eq_getElem?_getD, hi']
      have rr : Refs h4 h [x2, I ((k + 1 : Nat) : Int), .e0, .e0] [.rs 5 (fnCs (getF fs us)), I ((k + 1 : Nat) : Int), .e0, .e0] := .cons r1 (Refs.refl _)
      exact hK hlt _ _ ⟨_, h, r2, rr.len, fun j _ => rr.get j, _, rfl, by rw [if_neg hl1]; exact ⟨rfl, rfl⟩⟩
  · have hkn : k = fs.length := by omega
    subst hkn
    rw [if_neg (by omega)] at hs
    obtain ⟨rfl, rfl⟩ := hs
    simp only [g_0, g_1, w_lss, Int.lt_irrefl, decide_false, w_brA, Bool.false_eq_true, if_false, w_one_rs]
    refine callS_of (vref03_Is_c ⟨sy, getF fs us⟩ ?_)
    rw [hok, w_notA, w_brA, if_neg (by decide)]
    exact retA_of hq
end Am
set_option linter.unusedVariables false
set_option linter.unusedSimpArgs false
namespace Am
open Go Go.Proofs.Tryz
def tx1 : ByteArray := { data := #[115, 121, 109, 98, 111, 108, 32, 97, 32, 50, 10, 115, 121, 109, 98, 111, 108, 32, 98, 32, 49, 10, 115, 121, 109, 98, 111, 108, 32, 99, 32, 48, 10, 102, 117, 110, 32, 115, 32, 58, 32, 111, 32, 61, 32, 102, 32, 35, 99, 10, 102, 117, 110, 32, 102, 32, 58, 32, 111, 32, 62, 32, 111, 32, 61, 32, 35, 97, 32, 36, 48, 32, 40, 102, 32, 40, 35, 98, 32, 36, 48, 41, 41, 10] }
def nm (n : UInt8) : ByteArray := ⟨#[n]⟩
def sy1 : List Sy := [(nm 97, 2), (nm 98, 1), (nm 99, 0)]
def leafT (k n : Int) : Tm := .mk (k, n) []
def us1 : List Tm := [.mk (1, 1) [leafT 2 2], .mk (2, 0) [leafT 0 0, .mk (1, 1) [.mk (2, 1) [leafT 0 0]]]]
def fl1 : List Fl := [(nm 115, 0, 45), (nm 102, 1, 66)]
def ex1 : Sch := ⟨sy1, [⟨nm 115, so, us1.getD 0 default⟩, ⟨nm 102, .mk () [so], us1.getD 1 default⟩]⟩
theorem ex1_sym : symL 200 (tl tx1) 0 = some (sy1, 33) := by kernel_rfl
theorem ex1_fun : funL 200 (tl tx1) 33 = some fl1 := by kernel_rfl
theorem ex1_bod : bodyL (sy1.map (·.1)) (fl1.map (·.1)) 200 (tl tx1) fl1 = some us1 := by kernel_rfl
theorem ex1_get : (⟨sy1, getF fl1 us1⟩ : Sch) = ex1 := by kernel_rfl
theorem ex1_ok : schB ex1 = true := by kernel_rfl
theorem ex1_Get {h : Heap} {Q : AV → Heap → Prop} (hq : Q (.tup [sm ex1, I 0]) h) : ACalls prog n_vref03_Get [S tx1] h Q := by
  have := vref03_Get_c (t := tx1) (by decide) 200 (by decide) ex1_sym ex1_fun ex1_bod (by decide) (by decide) (fun f hf => by
    simp only [fl1, List.mem_cons, List.not_mem_nil, or_false] at hf
    rcases hf with rfl | rfl <;> decide) (by rw [ex1_get]; exact ex1_ok) (h := h) (Q := Q)
  rw [ex1_get] at this
  exact this hq
end Am
