/- The reference's lists: a head is added, a place is added; how much is known. -/
import Derived.Test.YtoifckjdnldlpaaZFu
import Derived.Test.YtoifckjdnldlpaaZFV
set_option linter.unusedVariables false
set_option linter.unusedSimpArgs false
namespace Am
open Go Go.Proofs.Try
theorem vref19_before_c (p q : Pc) {h : Heap} {Q : AV → Heap → Prop} (hq : Q (B (decide (p.1 < q.1 ∨ (p.1 = q.1 ∧ p.2 < q.2)))) h) : ACalls prog n_vref19_before [kC p, kC q] h Q := by
  refine vref19_before_call ?_
  unfold vref19_before
  simp only [w_agg, List.length_cons, List.length_nil, true_and, g_0, g_1, w_lss, w_brA, w_eql]
  by_cases h1 : p.1 < q.1
  · have h1' : (p.1 : Int) < q.1 := by omega
    have e : decide (p.1 < q.1 ∨ (p.1 = q.1 ∧ p.2 < q.2)) = true := by simp [h1]
    rw [e] at hq
    simp only [h1', decide_true, if_true]
    exact retA_of hq
  · have h1' : ¬ (p.1 : Int) < q.1 := by omega
    simp only [h1', decide_false, Bool.false_eq_true, if_false]
    by_cases h2 : p.1 = q.1
    · have h2' : (p.1 : Int) = q.1 := by omega
      simp only [h2', decide_true, if_true]
      refine retA_of ?_
      have e : decide ((p.2 : Int) < q.2) = decide (p.1 < q.1 ∨ (p.1 = q.1 ∧ p.2 < q.2)) := by congr 1; apply propext; omega
      rw [e]; exact hq
    · have h2' : ¬ (p.1 : Int) = q.1 := by omega
      have e : decide (p.1 < q.1 ∨ (p.1 = q.1 ∧ p.2 < q.2)) = false := by simp [h1, h2]
      rw [e] at hq
      simp only [h2', decide_false, Bool.false_eq_true, if_false]
      exact retA_of hq
def Srtd (l : List Pc) : Prop := l.Pairwise (fun a b => leP a b = true) ∧ l.Nodup
theorem Srtd.srt {l : List Pc} (h : l.Nodup) : Srtd (srtP l) := ⟨srtP_pw l, (srtP_isPerm l).symm.nodup h⟩
theorem Srtd.eq {l : List Pc} (h : Srtd l) : srtP l = l := (srtP_uniq (List.Perm.refl l) h.1).symm
theorem Srtd.ins {l : List Pc} (h : Srtd l) (p : Pc) : Srtd (srtP (insK l p)) := Srtd.srt (insK_nodup h.2)
theorem eqA_pc (p q : Pc) (K : AV → Prop) : eqA [.int .i64, .int .i64] false (.agg [I (p.1 : Nat), I (p.2 : Nat)]) (.agg [I (q.1 : Nat), I (q.2 : Nat)]) K = K (B (decide (p = q))) := by
  have h := eqKey_kC p q
  have h2 : eqCells [.int .i64, .int .i64] [I (p.1 : Nat), I (p.2 : Nat)] [I (q.1 : Nat), I (q.2 : Nat)] = some (decide (p = q)) := by simpa [eqKey] using h
  simp only [eqA, List.length_cons, List.length_nil, true_and, h2]
  rfl
theorem vref19_addPlace_c {l : List Pc} (hs : Srtd l) (hl : l.length ≤ 1000000) (p : Pc) {h : Heap} {Q : AV → Heap → Prop} (hq : Q (.rs 2 ((srtP (insK l p)).map plC)) h) : ACalls prog n_vref19_addPlace [.rs 2 (l.map plC), kC p] h Q := by
  -- what is laid, when the place is new
  have new : ∀ k, k ≤ l.length → (∀ i (hi : i < l.length), i < k → (l[i].1 < p.1 ∨ (l[i].1 = p.1 ∧ l[i].2 < p.2))) → (∀ (hi : k < l.length), ¬ (l[k].1 < p.1 ∨ (l[k].1 = p.1 ∧ l[k].2 < p.2)) ∧ l[k] ≠ p) → l.take k ++ [p] ++ l.drop k = srtP (insK l p) := fun k hk hlt hge => by
    have ge : ∀ x, x ∈ l.drop k → p.1 < x.1 ∨ (p.1 = x.1 ∧ p.2 < x.2) := fun x hx => by
      obtain ⟨i, hi, e⟩ := List.mem_iff_getElem.1 hx
      have hi' : k + i < l.length := by simp at hi; omega
      have hk' : k < l.length := by omega
      obtain ⟨g1, g2⟩ := hge hk'
      have e' : l[k + i] = x := by rw [← e]; simp
      have g3 : p.1 < l[k].1 ∨ (p.1 = l[k].1 ∧ p.2 < l[k].2) := by
        have : ¬ (l[k].1 = p.1 ∧ l[k].2 = p.2) := fun h => g2 (Prod.ext h.1 h.2)
        omega
      by_cases h0 : i = 0
      · subst h0; rw [← e']; simpa using g3
      · have := (List.pairwise_iff_getElem.1 hs.1) k (k + i) hk' hi' (by omega)
        simp only [leP, decide_eq_true_eq] at this
        rw [← e']; omega
    have lt : ∀ x, x ∈ l.take k → x.1 < p.1 ∨ (x.1 = p.1 ∧ x.2 < p.2) := fun x hx => by
      obtain ⟨i, hi, e⟩ := List.mem_iff_getElem.1 hx
      have hi' : i < k ∧ i < l.length := by simp at hi; omega
      have := hlt i hi'.2 hi'.1
      have e' : l[i]'hi'.2 = x := by rw [← e]; simp
      rw [← e']; exact this
    have hn : p ∉ l := fun h => by
      rw [← List.take_append_drop k l] at h
      rcases List.mem_append.1 h with h | h
      · have := lt p h; omega
      · have := ge p h; omega
    rw [insK, if_neg hn]
    refine srtP_uniq ?_ ?_
    · have h1 : (l.take k ++ [p] ++ l.drop k).Perm (l.take k ++ l.drop k ++ [p]) := by
        rw [List.append_assoc, List.append_assoc]
        exact (List.perm_append_comm (l₁ := [p])).append_left _
      rwa [List.take_append_drop] at h1
    · have h2 := hs.1
      rw [← List.take_append_drop k l, List.pairwise_append] at h2
      obtain ⟨q1, q2, q3⟩ := h2
      rw [List.pairwise_append, List.pairwise_append]
      refine ⟨⟨q1, by simp, fun a ha b hb => ?_⟩, q2, fun a ha b hb => ?_⟩
      · have : b = p := by simpa using hb
        subst this
        have := lt a ha
        simp only [leP, decide_eq_true_eq]; omega
      · rcases List.mem_append.1 ha with ha | ha
        · exact q3 a ha b hb
        · have : a = p := by simpa using ha
          subst this
          have := ge b hb
          simp only [leP, decide_eq_true_eq]; omega
  have lay : ∀ k, k ≤ l.length → l.take k ++ [p] ++ l.drop k = srtP (insK l p) → sliceA 2 (.rs 2 (l.map plC)) none (some (I (k : Nat))) fun x_38 =>
     appA 2 16 .e0 x_38 h fun x_39 h_40 =>
     appA 2 16 x_39 (.rs 2 [[I (p.1 : Nat), I (p.2 : Nat)]]) h_40 fun x_41 h_42 =>
     sliceA 2 (.rs 2 (l.map plC)) (some (I (k : Nat))) none fun x_43 =>
     appA 2 16 x_41 x_43 h_42 fun x_44 h_45 =>
     retA x_44 h_45 Q := fun k hk he => by
    rw [w_sl_to]
    refine ⟨rfl, by omega, by omega, by simp; omega, ?_⟩
    rw [Int.toNat_natCast]
    refine (SlO.nil 2).app (by simp; omega) fun x39 h40 o1 => ?_
    refine o1.app (by simp; omega) fun x41 h42 o2 => ?_
    rw [w_sl_from]
    refine ⟨rfl, by omega, by omega, by simp; omega, ?_⟩
    rw [Int.toNat_natCast]
    refine o2.app (by simp; omega) fun x44 h45 o3 => ?_
    have e : [] ++ (l.map plC).take k ++ [[I (p.1 : Nat), I (p.2 : Nat)]] ++ (l.map plC).drop k = (srtP (insK l p)).map plC := by
      rw [← he]; simp
    rw [e] at o3
    obtain ⟨r1, r2⟩ := o3.wk fun i hi => by
      have : i < (srtP (insK l p)).length := by simpa using hi
      simp [List.getD_eq_getElem?_getD, this]
    exact retA_wk r1 r2 hq
  have had : ∀ k (hk : k < l.length), l[k] = p → Q (.rs 2 (l.map plC)) h := fun k hk he => by
    have : p ∈ l := he ▸ List.getElem_mem hk
    rw [insK, if_pos this, hs.eq] at hq
    exact hq
  refine vref19_addPlace_call ?_
  unfold vref19_addPlace
  simp only [w_agg, List.length_cons, List.length_nil, true_and, g_0, g_1, w_len_rs, List.length_map]
  refine loop_ix l.length (fun k => ∀ i (hi : i < l.length), i < k → (l[i].1 < p.1 ∨ (l[i].1 = p.1 ∧ l[i].2 < p.2))) (fun i hi h0 => by omega) fun k hk hI K hK => ?_
  simp only [g_0]
  by_cases hlt : k < l.length
  · have hlt' : (k : Int) < l.length := by omega
    simp only [w_lss, hlt', decide_true, w_brA, if_true]
    refine ix_rs (by simpa using hlt) (plC_get hlt) ?_
    rw [w_loadG_ro]
    refine ⟨by simp, callS_of ?_⟩
    simp only [g_0, g_1]
    refine vref19_before_c l[k] p ?_
    by_cases hb : l[k].1 < p.1 ∨ (l[k].1 = p.1 ∧ l[k].2 < p.2)
    · simp only [hb, decide_true, w_brA, if_true]
      rw [w_add, wrap_k (k := k) (by omega)]
      refine hK hlt fun i hi hik => ?_
      by_cases e : i = k
      · subst e; exact hb
      · exact hI i hi (by omega)
    · simp only [hb, decide_false, w_brA, Bool.false_eq_true, if_false]
      refine ix_rs (by simpa using hlt) (plC_get hlt) ?_
      rw [w_loadG_ro]
      refine ⟨by simp, ?_⟩
      simp only [g_0, g_1]
      rw [eqA_pc, w_brA]
      by_cases he : l[k] = p
      · simp only [he, decide_true, if_true]
        exact retA_of (had k hlt he)
      · simp only [he, decide_false, Bool.false_eq_true, if_false]
        exact lay k hk (new k hk hI fun _ => ⟨hb, he⟩)
  · have hkn : k = l.length := by omega
    subst hkn
    simp only [w_lss, Int.lt_irrefl, decide_false, w_brA, Bool.false_eq_true, if_false]
    exact lay _ hk (new _ hk hI fun hi => absurd hi (Nat.lt_irrefl _))
theorem vref19_addHead_c {hb h : Heap} {c : Con} {lo : Lo} (R : RC hb c lo h) (a : Ad) {l : List Pc} {x : AV} (hx : (x = .e0 ∧ l = []) ∨ (x = .os (lo a) l.length ∧ c a = some (.arr 2 (l.map plC)))) (hl : l.length ≤ 1000000) (y : Pc) {Q : AV → Heap → Prop} (h1 : y ∈ l → Q x h)
    (h2 : y ∉ l → ∀ i h', RC hb (c.set a (.arr 2 ((l ++ [y]).map plC))) (lo.set a i) h' → Q (.os i (l.length + 1)) h') : ACalls prog n_vref19_addHead [x, kC y] h Q := by
  refine vref19_addHead_call ?_
  unfold vref19_addHead
  simp only [w_agg, List.length_cons, List.length_nil, true_and, g_0, g_1]
  have hlen : ∀ {K : AV → Prop}, K (I (l.length : Nat)) → lenA x K := fun {K} hk => by
    rcases hx with ⟨rfl, rfl⟩ | ⟨rfl, _⟩
    · exact hk
    · exact hk
  refine hlen ?_
  refine loop_ix l.length (fun k => ∀ i (hi : i < l.length), i < k → l[i] ≠ y) (fun i hi h0 => by omega) fun k hk hI K hK => ?_
  simp only [g_0]
  by_cases hlt : k < l.length
  · have hlt' : (k : Int) < l.length := by omega
    simp only [w_lss, hlt', decide_true, w_brA, if_true]
    rcases hx with ⟨_, rfl⟩ | ⟨rfl, hc⟩
    · simp at hlt
    · have hn := R.own a _ hc
      rw [w_idx_os hn]
      refine ⟨rfl, by omega, hlt', by simp, ?_⟩
      rw [Int.toNat_natCast, w_loadG_op hn, plC_get hlt]
      refine ⟨by simpa using hlt, by omega, ?_⟩
      simp only [List.drop_zero, g_0, g_1]
      rw [eqA_pc, w_brA]
      by_cases he : l[k] = y
      · simp only [he, decide_true, if_true]
        exact retA_of (h1 (he ▸ List.getElem_mem hlt))
      · simp only [he, decide_false, Bool.false_eq_true, if_false]
        rw [w_add, wrap_k (k := k) (by omega)]
        refine hK hlt fun i hi hik => ?_
        by_cases e : i = k
        · subst e; exact he
        · exact hI i hi (by omega)
  · have hkn : k = l.length := by omega
    subst hkn
    simp only [w_lss, Int.lt_irrefl, decide_false, w_brA, Bool.false_eq_true, if_false]
    have hn : y ∉ l := fun h => by
      obtain ⟨i, hi, e⟩ := List.mem_iff_getElem.1 h
      exact hI i hi hi e
    refine R.app1 a (els := l.map plC) ?_ (by simp; omega) fun i h' R1 => ?_
    · rcases hx with ⟨rfl, rfl⟩ | ⟨rfl, hc⟩
      · exact .inl ⟨rfl, rfl⟩
      · exact .inr ⟨_, _, rfl, hc, by simp, by rw [List.take_of_length_le (by simp)]⟩
    · have e : l.map plC ++ [[I (y.1 : Nat), I (y.2 : Nat)]] = (l ++ [y]).map plC := by simp
      rw [e] at R1
      rw [List.length_map]
      exact retA_of (h2 hn i h' R1)
end Am
