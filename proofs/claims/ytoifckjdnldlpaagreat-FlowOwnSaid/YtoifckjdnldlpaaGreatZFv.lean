/- The reference's lists: a head is added, a place is added; how much is known. -/
import Derived.Test.YtoifckjdnldlpaaGreatZFu
import Derived.Test.YtoifckjdnldlpaaGreatZFV
set_option linter.unusedVariables false
set_option linter.unusedSimpArgs false
namespace Am
open Go Go.Proofs.Tryz
theorem vref19_before_c (p q : Pc) {h : Heap} {Q : AV → Heap → Prop} (hq : Q (B (decide (p.1 < q.1 ∨ (p.1 = q.1 ∧ p.2 < q.2)))) h) : ACalls prog n_vref19_before [kC p, kC q] h Q := by
  refine vref19_before_call ?_
  unfold vref19_before
  simp only [w_agg, List.length_cons, List.length_nil, true_and, g_0, g_1, w_lss, w_brA, w_eql]
  by_cases h1 : p.1 < q.1
  · have h1' : (p.1 : Int) < q.1 := by omega
    have e : decide (p.1 < q.1 ∨ (p.1 = q.1 ∧ p.2 < q.2)) = true := by simp [h1]
    rw [e] at hq
    simp only [h1', decide_true, if_true]
    exact retA_of hq
  · have h1' : ¬ (p.1 : Int) < q.1 := by omega
    simp only [h1', decide_false, Bool.false_eq_true, if_false]
    by_cases h2 : p.1 = q.1
    · have h2' : (p.1 : Int) = q.1 := by omega
      simp only [h2', decide_true, if_true]
      refine retA_of ?_
      have e : decide ((p.2 : Int) < q.2) = decide (p.1 < q.1 ∨ (p.1 = q.1 ∧ p.2 < q.2)) := by congr 1; apply propext; omega
      rw [e]; exact hq
    · have h2' : ¬ (p.1 : Int) = q.1 := by omega
      have e : decide (p.1 < q.1 ∨ (p.1 = q.1 ∧ p.2 < q.2)) = false := by simp [h1, h2]
      rw [e] at hq
      simp only [h2', decide_false, Bool.false_eq_true, if_false]
      exact retA_of hq
def Srtd (l : List Pc) : Prop := l.Pairwise (fun a b => leP a b = true) ∧ l.Nodup
theorem Srtd.srt {l : List Pc} (h : l.Nodup) : Srtd (srtP l) := ⟨srtP_pw l, (srtP_isPerm l).symm.nodup h⟩
theorem Srtd.eq {l : List Pc} (h : Srtd l) : srtP l = l := (srtP_uniq (List.Perm.refl l) h.1).symm
theorem Srtd.ins {l : List Pc} (h : Srtd l) (p : Pc) : Srtd (srtP (insK l p)) := Srtd.srt (insK_nodup h.2)
theorem eqA_pc (p q : Pc) (K : AV → Prop) : eqA [.int .i64, .int .i64] false (.agg [I (p.1 : Nat), I (p.2 : Nat)]) (.agg [I (q.1 : Nat), I (q.2 : Nat)]) K = K (B (decide (p = q))) := by
  have h := eqKey_kC p q
  have h2 : eqCells [.int .i64, .int .i64] [I (p.1 : Nat), I (p.2 : Nat)] [I (q.1 : Nat), I (q.2 : Nat)] = some (decide (p = q)) := by simpa [eqKey] using h
  simp only [eqA, List.length_cons, List.length_nil, true_and, h2]
  rfl
theorem vref19_addPlace_c {l : List Pc} (hs : Srtd l) (hl : l.length ≤ 1000000) (p : Pc) {h : Heap} {Q : AV → Heap → Prop} (hq : Q (.rs 2 ((srtP (insK l p)).map plC)) h) : ACalls prog n_vref19_addPlace [.rs 2 (l.map plC), kC p] h Q := by
  -- what is laid, when the place is new
  have new : ∀ k, k ≤ l.length → (∀ i (hi : i < l.length), i < k → (l[i].1 < p.1 ∨ (l[i].1 = p.1 ∧ l[i].2 < p.2))) → (∀ (hi : k < l.length), ¬ (l[k].1 < p.1 ∨ (l[k].1 = p.1 ∧ l[k].2 < p.2)) ∧ l[k] ≠ p) → l.take k ++ [p] ++ l.drop k = srtP (insK l p) := fun k hk hlt hge => by
    have ge : ∀ x, x ∈ l.drop k → p.1 < x.1 ∨ (p.1 = x.1 ∧ p.2 < x.2) := fun x hx => by
      obtain ⟨i, hi, e⟩ := List.mem_iff_getElem.1 hx
      have hi' : k + i < l.length := by simp at hi; omega
      have hk' : k < l.length := by omega
      obtain ⟨g1, g2⟩ := hge hk'
      have e' : l[k + i] = x := by rw [← e]; simp
      have g3 : p.1 < l[k].1 ∨ (p.1 = l[k].1 ∧ p.2 < l[k].2) := by
        have : ¬ (l[k].1 = p.1 ∧ l[k].2 = p.2) := fun h => g2 (Prod.ext h.1 h.2)
        omega
      by_cases h0 : i = 0
      · subst h0; rw [← e']; simpa using g3
      · have := (List.pairwise_iff_getElem.1 hs.1) k (k + i) hk' hi' (by omega)
        simp only [leP, decide_eq_true_eq] at this
        rw [← e']; omega
    have lt : ∀ x, x ∈ l.take k → x.1 < p.1 ∨ (x.1 = p.1 ∧ x.2 < p.2) := fun x hx => by
      obtain ⟨i, hi, e⟩ := List.mem_iff_getElem.1 hx
      have hi' : i < k ∧ i < l.length := by simp at hi; omega
      have := hlt i hi'.2 hi'.1
      have e' : l[i]'hi'.2 = x := by rw [← e]; simp
      rw [← e']; exact this
    have hn : p ∉ l := fun h => by
      rw [← List.take_append_drop k l] at h
      rcases List.mem_append.1 h with h | h
      · have := lt p h; omega
      · have := ge p h; omega
    rw [insK, if_neg hn]
    refine srtP_uniq ?_ ?_
    · have h1 : (l.take k ++ [p] ++ l.drop k).Perm (l.take k ++ l.drop k ++ [p]) := by
        rw [List.append_assoc, List.append_assoc]
        exact (List.perm_append_comm (l₁ := [p])).append_left _
      rwa [List.take_append_drop] at h1
    · have h2 := hs.1
      rw [← List.take_append_drop k l, List.pairwise_append] at h2
      obtain ⟨q1, q2, q3⟩ := h2
      rw [List.pairwise_append, List.pairwise_append]
      refine ⟨⟨q1, by simp, fun a ha b hb => ?_⟩, q2, fun a ha b hb => ?_⟩
      · have : b = p := by simpa using hb
        subst this
        have := lt a ha
        simp only [leP, decide_eq_true_eq]; omega
      · rcases List.mem_append.1 ha with ha | ha
        · exact q3 a ha b hb
        · have : a = p := by simpa using ha
          subst this
          have := ge b hb
          simp only [leP, decide_eq_true_eq]; omega
  have lay : ∀ k, k ≤ l.length → l.take k ++ [p] ++ l.drop k = srtP (insK l p) → sliceA 2 (.rs 2 (l.map plC)) none (some (I (k : Nat))) fun x_38 =>
     appA 2 16 .e0 x_38 h fun x_39 h_40 =>
     appA 2 16 x_39 (.rs 2 [[I (p.1 : Nat), I (p.2 : Nat)]]) h_40 fun x_41 h_42 =>
     sliceA 2 (.rs 2 (l.map plC)) (some (I (k : Nat))) none fun x_43 =>
     appA 2 16 x_41 x_43 h_42 fun x_44 h_45 =>
     retA x_44 h_45 Q := fun k hk he => by
    rw [w_sl_to]
    refine ⟨rfl, by omega, by omega, by simp; omega, ?_⟩
    rw [Int.toNat_natCast]
    refine (SlO.nil 2).app (by simp; omega) fun x39 h40 o1 => ?_
    refine o1.app (by simp; omega) fun x41 h42 o2 => ?_
    rw [w_sl_from]
    refine ⟨rfl, by omega, by omega, by simp; omega, ?_⟩
    rw [Int.toNat_natCast]
    refine o2.app (by simp; omega) fun x44 h45 o3 => ?_
    have e : [] ++ (l.map plC).take k ++ [[I (p.1 : Nat), I (p.2 : Nat)]] ++ (l.map plC).drop k = (srtP (insK l p)).map plC := by
      rw [← he]; simp
    rw [e] at o3
    obtain ⟨r1, r2⟩ := o3.wk fun i hi => by
      have : i < (srtP (insK l p)).length := by simpa using hi
      simp [List.getD_eq_getElem?_getD, this]
    exact retA_wk r1 r2 hq
  have had : ∀ k (hk : k < l.length), l[k] = p → Q (.rs 2 (l.map plC)) h := fun k hk he => by
    have : p ∈ l := he ▸ List.getElem_mem hk
    rw [insK, if_pos this, hs.eq] at hq
    exact hq
  refine vref19_addPlace_call ?_
  unfold vref19_addPlace
  simp only [w_agg, List.length_cons, List.length_nil, true_and, g_0, g_1, w_len_rs, List.length_map]
  refine loop_ix l.length (fun k => ∀ i (hi : i < l.length), i < k → (l[i].1 < p.1 ∨ (l[i].1 = p.1 ∧ l[i].2 < p.2))) (fun i hi h0 => by omega) fun k hk hI K hK => ?_
  simp only [g_0]
  by_cases hlt : k < l.length
  · have hlt' : (k : Int) < l.length := by omega
    simp only [w_lss, hlt', decide_true, w_brA, if_true]
    refine ix_rs (by simpa using hlt) (plC_get hlt) ?_
    rw [w_loadG_ro]
    refine ⟨by simp, callS_of ?_⟩
    simp only [g_0, g_1]
    refine vref19_before_c l[k] p ?_
    by_cases hb : l[k].1 < p.1 ∨ (l[k].1 = p.1 ∧ l[k].2 < p.2)
    · simp only [hb, decide_true, w_brA, if_true]
      rw [w_add, wrap_k (k := k) (by omega)]
      refine hK hlt fun i hi hik => ?_
      by_cases e : i = k
      · subst e; exact hb
      · exact hI i hi (by omega)
    · simp only [hb, decide_false, w_brA, Bool.false_eq_true, if_false]
      refine ix_rs (by simpa using hlt) (plC_get hlt) ?_
      rw [w_loadG_ro]
      refine ⟨by simp, ?_⟩
      simp only [g_0, g_1]
      rw [eqA_pc, w_brA]
      by_cases he : l[k] = p
      · simp only [he, decide_true, if_true]
        exact retA_of (had k hlt he)
      · simp only [he, decide_false, Bool.false_eq_true, if_false]
        exact lay k hk (new k hk hI fun _ => ⟨hb, he⟩)
  · have hkn : k = l.length := by omega
    subst hkn
    simp only [w_lss, Int.lt_irrefl, decide_false, w_brA, Bool.false_eq_true, if_false]
    exact lay _ hk (new _ hk hI fun hi => absurd hi (Nat.lt_irrefl _))
theorem vref19_addHead_c {hb h : Heap} {c : Con} {lo : Lo} (R : RC hb c lo h) (a : Ad) {l : List Pc} {x : AV} (hx : (x = .e0 ∧ l = []) ∨ (x = .os (lo a) l.length ∧ c a = some (.arr 2 (l.map plC)))) (hl : l.length ≤ 1000000) (y : Pc) {Q : AV → Heap → Prop} (h1 : y ∈ l → Q x h)
    (h2 : y ∉ l → ∀ i h', RC hb (c.set a (.arr 2 ((l ++ [y]).map plC))) (lo.set a i) h' → Q (.os i (l.length + 1)) h') : ACalls prog n_vref19_addHead [x, kC y] h Q := by
  refine vref19_addHead_call ?_
  unfold vref19_addHead
  simp only [w_agg, List.length_cons, List.length_nil, true_and, g_0, g_1]
  have hlen : ∀ {K : AV → Prop}, K (I (l.length : Nat)) → lenA x K := fun {K} hk => by
    rcases hx with ⟨rfl, rfl⟩ | ⟨rfl, _⟩
    · exact hk
    · exact hk
  refine hlen ?_
  refine loop_ix l.length (fun k => ∀ i (hi : i < l.length), i < k → l[i] ≠ y) (fun i hi h0 => by omega) fun k hk hI K hK => ?_
  simp only [g_0]
  by_cases hlt : k < l.length
  · have hlt' : (k : Int) < l.length := by omega
    simp only [w_lss, hlt', decide_true, w_brA, if_true]
    rcases hx with ⟨_, rfl⟩ | ⟨rfl, hc⟩
    · simp at hlt
    · have hn := R.own a _ hc
      rw [w_idx_os hn]
      refine ⟨rfl, by omega, hlt', by simp, ?_⟩
      rw [Int.toNat_natCast, w_loadG_op hn, plC_get hlt]
      refine ⟨by simpa using hlt, by omega, ?_⟩
      simp only [List.drop_zero, g_0, g_1]
      rw [eqA_pc, w_brA]
      by_cases he : l[k] = y
      · simp only [he, decide_true, if_true]
        exact retA_of (h1 (he ▸ List.getElem_mem hlt))
      · simp only [he, decide_false, Bool.false_eq_true, if_false]
        rw [w_add, wrap_k (k := k) (by omega)]
        refine hK hlt fun i hi hik => ?_
        by_cases e : i = k
        · subst e; exact he
        · exact hI i hi (by omega)
  · have hkn : k = l.length := by omega
    subst hkn
    simp only [w_lss, Int.lt_irrefl, decide_false, w_brA, Bool.false_eq_true, if_false]
    have hn : y ∉ l := fun h => by
      obtain ⟨i, hi, e⟩ := List.mem_iff_getElem.1 h
      exact hI i hi hi e
    refine R.app1 a (els := l.map plC) ?_ (by simp; omega) fun i h' R1 => ?_
    · rcases hx with ⟨rfl, rfl⟩ | ⟨rfl, hc⟩
      · exact .inl ⟨rfl, rfl⟩
      · exact .inr ⟨_, _, rfl, hc, by simp, by rw [List.take_of_length_le (by simp)]⟩
    · have e : l.map plC ++ [[I (y.1 : Nat), I (y.2 : Nat)]] = (l ++ [y]).map plC := by simp
      rw [e] at R1
      rw [List.length_map]
      exact retA_of (h2 hn i h' R1)
end Am
set_option linter.unusedVariables false
set_option linter.unusedSimpArgs false
namespace Am
open Go Go.Proofs.Tryz
structure KS where
  hd : Pc → List Pc
  cm : Pc → List Pc
def nN (s : Sch) (f : Nat) : Nat := (s.funs.getD f default).body.nodes
def NR (s : Sch) : List (List AV) := s.funs.map fun f => [.rs 3 (tmCs (preT_ f.body))]
def HR (s : Sch) (l : Lo) : List (List AV) := (List.range s.funs.length).map fun f => [.os (l (.cs f)) (nN s f)]
def CR (s : Sch) (l : Lo) : List (List AV) := (List.range s.funs.length).map fun f => [.os (l (.tmp f)) (ar s f)]
def hV (σ : KS) (l : Lo) (p : Pc) : AV := if σ.hd p = [] then .e0 else .os (l (.hm p)) (σ.hd p).length
def conK (s : Sch) (σ : KS) (l : Lo) : Con
  | .pa => some (.arr 5 [[.rs 2 (syCs s.syms), .rs 5 (fnCs s.funs), .rs 1 (NR s), .rs 1 (HR s l), .rs 1 (CR s l)]])
  | .cs f => if f < s.funs.length then some (.arr 1 ((List.range (nN s f)).map fun i => [hV σ l (f, i)])) else none
  | .tmp f => if f < s.funs.length then some (.arr 1 ((List.range (ar s f)).map fun i => [.rs 2 ((σ.cm (f, i)).map plC)])) else none
  | .hm p => if p.1 < s.funs.length ∧ p.2 < nN s p.1 ∧ σ.hd p ≠ [] then some (.arr 2 ((σ.hd p).map plC)) else none
  | _ => none
structure KInv (s : Sch) (R : Nat → Prop) (σ : KS) : Prop where
  sh : ∀ p h, h ∈ σ.hd p → FlP s R false p h
  sc : ∀ k p, p ∈ σ.cm k → FlP s R true k p
  hn : ∀ p, (σ.hd p).Nodup
  cs : ∀ k, Srtd (σ.cm k)
def sumN (n : Nat) (f : Nat → Nat) : Nat := ((List.range n).map f).sum
theorem sumN_succ (n : Nat) (f : Nat → Nat) : sumN (n + 1) f = sumN n f + f n := by simp [sumN, List.range_succ]
theorem sumN_le {n m : Nat} {f : Nat → Nat} (h : ∀ i, i < n → f i ≤ m) : sumN n f ≤ n * m := by
  induction n with
  | zero => simp [sumN]
  | succ n ih =>
    rw [sumN_succ, Nat.succ_mul]
    have := ih fun i hi => h i (by omega)
    have := h n (by omega)
    omega
theorem sumN_mono {n : Nat} {f g : Nat → Nat} (h : ∀ i, i < n → f i ≤ g i) : sumN n f ≤ sumN n g := by
  induction n with
  | zero => simp [sumN]
  | succ n ih =>
    rw [sumN_succ, sumN_succ]
    have := ih fun i hi => h i (by omega)
    have := h n (by omega)
    omega
theorem sumN_eq {n : Nat} {f g : Nat → Nat} (h : ∀ i, i < n → f i ≤ g i) (he : sumN n f = sumN n g) : ∀ i, i < n → f i = g i := by
  induction n with
  | zero => intro i hi; omega
  | succ n ih =>
    rw [sumN_succ, sumN_succ] at he
    have h1 := sumN_mono (n := n) (f := f) (g := g) fun i hi => h i (by omega)
    have h2 := h n (by omega)
    intro i hi
    by_cases e : i = n
    · subst e; omega
    · exact ih (fun i hi => h i (by omega)) (by omega) i (by omega)
def szH (s : Sch) (σ : KS) (f : Nat) : Nat := sumN (nN s f) fun i => (σ.hd (f, i)).length
def szC (s : Sch) (σ : KS) (f : Nat) : Nat := sumN (ar s f) fun i => (σ.cm (f, i)).length
def szK (s : Sch) (σ : KS) : Nat := sumN s.funs.length fun f => szH s σ f + szC s σ f
section
variable {s : Sch} {R : Nat → Prop} {σ : KS} {hb h : Heap} {l : Lo}
theorem KInv.hd_le (H : SOk s) (I : KInv s R σ) (p : Pc) : (σ.hd p).length ≤ 576 :=
  Nat.le_trans (List.Nodup.length_le_of_subset (I.hn p) fun h hh => by
    obtain ⟨_, h2, h3, _⟩ := ((I.sh p h hh).typed H).1 rfl
    exact mem_allHd.2 ⟨h2, h3⟩) (allHd_len H)
theorem KInv.cm_le (H : SOk s) (Sm : Small s) (I : KInv s R σ) (k : Pc) : (σ.cm k).length ≤ 150 :=
  Nat.le_trans (List.Nodup.length_le_of_subset (I.cs k).2 fun p hp => mem_allPl.2 (((I.sc k p hp).typed H).2 rfl).2.1) Sm
theorem nN_le (H : SOk s) {f : Nat} (hf : f < s.funs.length) : nN s f ≤ 400 := H.body (getD_mem hf)
theorem szK_le (H : SOk s) (Sm : Small s) (I : KInv s R σ) : szK s σ ≤ 64 * (400 * 576 + 8 * 150) := by
  refine Nat.le_trans (sumN_le (m := 400 * 576 + 8 * 150) fun f hf => ?_) (Nat.mul_le_mul H.few (Nat.le_refl _))
  have h1 : szH s σ f ≤ nN s f * 576 := sumN_le fun i _ => I.hd_le H _
  have h2 : szC s σ f ≤ ar s f * 150 := sumN_le fun i _ => I.cm_le H Sm _
  have h3 := Nat.mul_le_mul (nN_le H hf) (Nat.le_refl 576)
  have h4 := Nat.mul_le_mul (ar_le H hf) (Nat.le_refl 150)
  omega
theorem NR_get {f : Nat} (hf : f < s.funs.length) : (NR s).getD f [] = [.rs 3 (tmCs (preT_ (s.funs.getD f default).body))] := by
  simp [NR, List.getD_eq_getElem?_getD, hf]
theorem HR_get {f : Nat} (hf : f < s.funs.length) : (HR s l).getD f [] = [.os (l (.cs f)) (nN s f)] := by
  simp [HR, List.getD_eq_getElem?_getD, hf]
theorem CR_get {f : Nat} (hf : f < s.funs.length) : (CR s l).getD f [] = [.os (l (.tmp f)) (ar s f)] := by
  simp [CR, List.getD_eq_getElem?_getD, hf]
theorem NR_len : (NR s).length = s.funs.length := by simp [NR]
theorem HR_len : (HR s l).length = s.funs.length := by simp [HR]
theorem CR_len : (CR s l).length = s.funs.length := by simp [CR]
theorem rdK {P n : Nat} {cs : List AV} {x : AV} {K : AV → AV → Prop} (ha : h P = some (.arr 5 [cs])) (hn : n < 5) (hx : g cs n = x) (hk : K (.op P 0 n) x) : nilA (.op P 0 0) <| fldA n (.op P 0 0) fun p => loadV p h fun x => K p x := by
  rw [w_nil_op, w_fld_op, Nat.zero_add]
  exact ld ha hn hx hk
theorem pre_lab {p : Pc} (hp : okP s p) : (tmCs (preT_ (s.funs.getD p.1 default).body)).getD p.2 [] = tmC (ndS s p).1 := by
  have hlt : p.2 < (preT_ (s.funs.getD p.1 default).body).length := by rw [pre_len]; exact hp.2
  rw [tmCs_get hlt]
  have := pre_get hp
  rw [List.getElem?_eq_getElem hlt] at this
  simpa using congrArg tmC (Option.some.inj this)
theorem rd_srt' {f : Nat} (hf : f < s.funs.length) {K : AV → Prop} (hk : K (.rs 1 (srCs (srtOf s f).kids))) :
    idxA 5 (.rs 5 (fnCs s.funs)) (I (f : Nat)) h fun p => fldA 1 p fun q => fldA 0 q fun r => loadV r h K := by
  refine ix_rs (by rw [fnCs_len]; exact hf) (fn_get hf) ?_
  rw [fnC, w_fld_ro, List.drop_succ_cons, List.drop_zero, w_fld_ro, List.drop_zero, w_loadV_ro, srC_eq]
  exact hk
theorem rd_hd {P : Nat} (R : RC hb (conK s σ l) l h) (hP : l .pa = P) {f : Nat} (hf : f < s.funs.length) {K : AV → AV → AV → AV → Prop}
    (hk : K (.op P 0 3) (.rs 1 (HR s l)) (.ro [.os (l (.cs f)) (nN s f)]) (.os (l (.cs f)) (nN s f))) : nilA (.op P 0 0) <| fldA 3 (.op P 0 0) fun a => loadV a h fun b => idxA 1 b (I (f : Nat)) h fun c => loadV c h fun d => K a b c d := by
  have xa : h P = some (.arr 5 [[.rs 2 (syCs s.syms), .rs 5 (fnCs s.funs), .rs 1 (NR s), .rs 1 (HR s l), .rs 1 (CR s l)]]) := by rw [← hP]; exact R.own .pa _ rfl
  refine rdK xa (by omega) rfl ?_
  refine ix_rs (by rw [HR_len]; exact hf) (HR_get hf) ?_
  rw [w_loadV_ro]; exact hk
theorem rd_cmK {P : Nat} (R : RC hb (conK s σ l) l h) (hP : l .pa = P) {f : Nat} (hf : f < s.funs.length) {K : AV → AV → AV → AV → Prop}
    (hk : K (.op P 0 4) (.rs 1 (CR s l)) (.ro [.os (l (.tmp f)) (ar s f)]) (.os (l (.tmp f)) (ar s f))) : nilA (.op P 0 0) <| fldA 4 (.op P 0 0) fun a => loadV a h fun b => idxA 1 b (I (f : Nat)) h fun c => loadV c h fun d => K a b c d := by
  have xa : h P = some (.arr 5 [[.rs 2 (syCs s.syms), .rs 5 (fnCs s.funs), .rs 1 (NR s), .rs 1 (HR s l), .rs 1 (CR s l)]]) := by rw [← hP]; exact R.own .pa _ rfl
  refine rdK xa (by omega) rfl ?_
  refine ix_rs (by rw [CR_len]; exact hf) (CR_get hf) ?_
  rw [w_loadV_ro]; exact hk
theorem ix_hd (R : RC hb (conK s σ l) l h) {p : Pc} (hp : okP s p) {K : AV → Prop} (hk : K (.op (l (.cs p.1)) p.2 0)) : idxA 1 (.os (l (.cs p.1)) (nN s p.1)) (I (p.2 : Nat)) h K := by
  have xr : h (l (.cs p.1)) = some (.arr 1 ((List.range (nN s p.1)).map fun i => [hV σ l (p.1, i)])) := R.own (.cs p.1) _ (by simp only [conK, hp.1, if_true])
  rw [w_idx_os xr]
  exact ⟨rfl, by omega, by have : p.2 < nN s p.1 := hp.2; omega, by simp, by rw [Int.toNat_natCast]; exact hk⟩
theorem ld_hd (R : RC hb (conK s σ l) l h) {p : Pc} (hp : okP s p) {K : AV → Prop} (hk : K (hV σ l p)) : loadV (.op (l (.cs p.1)) p.2 0) h K := by
  have xr : h (l (.cs p.1)) = some (.arr 1 ((List.range (nN s p.1)).map fun i => [hV σ l (p.1, i)])) := R.own (.cs p.1) _ (by simp only [conK, hp.1, if_true])
  have h2 : p.2 < nN s p.1 := hp.2
  rw [w_loadV_op xr]
  refine ⟨by simpa using h2, by omega, ?_⟩
  simpa [List.getD_eq_getElem?_getD, h2] using hk
theorem ix_cm (R : RC hb (conK s σ l) l h) {k : Pc} (hk : okK s k) {K : AV → Prop} (hq : K (.op (l (.tmp k.1)) k.2 0)) : idxA 1 (.os (l (.tmp k.1)) (ar s k.1)) (I (k.2 : Nat)) h K := by
  have xr : h (l (.tmp k.1)) = some (.arr 1 ((List.range (ar s k.1)).map fun i => [.rs 2 ((σ.cm (k.1, i)).map plC)])) := R.own (.tmp k.1) _ (by simp only [conK, hk.1, if_true])
  rw [w_idx_os xr]
  exact ⟨rfl, by omega, by have : k.2 < ar s k.1 := hk.2; omega, by simp, by rw [Int.toNat_natCast]; exact hq⟩
theorem ld_cm (R : RC hb (conK s σ l) l h) {k : Pc} (hk : okK s k) {K : AV → Prop} (hq : K (.rs 2 ((σ.cm k).map plC))) : loadV (.op (l (.tmp k.1)) k.2 0) h K := by
  have xr : h (l (.tmp k.1)) = some (.arr 1 ((List.range (ar s k.1)).map fun i => [.rs 2 ((σ.cm (k.1, i)).map plC)])) := R.own (.tmp k.1) _ (by simp only [conK, hk.1, if_true])
  have h2 : k.2 < ar s k.1 := hk.2
  rw [w_loadV_op xr]
  refine ⟨by simpa using h2, by omega, ?_⟩
  simpa [List.getD_eq_getElem?_getD, h2] using hq
theorem len_hV {p : Pc} {K : AV → Prop} (hk : K (I ((σ.hd p).length : Nat))) : lenA (hV σ l p) K := by
  unfold hV
  by_cases e : σ.hd p = []
  · rw [if_pos e]; rw [e] at hk; exact hk
  · rw [if_neg e]; exact hk
theorem vref19_size_c (H : SOk s) (Sm : Small s) (I0 : KInv s R σ) (Rc : RC hb (conK s σ l) l h) {Q : AV → Heap → Prop} (hq : Q (I (szK s σ : Nat)) h) : ACalls prog n_vref19_state_size [.op (l .pa) 0 0] h Q := by
  have hfew := H.few
  have hbig := szK_le H Sm I0
  refine vref19_state_size_call ?_
  unfold vref19_state_size
  have xa : h (l .pa) = some (.arr 5 [[.rs 2 (syCs s.syms), .rs 5 (fnCs s.funs), .rs 1 (NR s), .rs 1 (HR s l), .rs 1 (CR s l)]]) := Rc.own .pa _ rfl
  refine rdK xa (by omega) rfl ?_
  simp only [g_s, g_0, w_len_rs, NR_len]
  have hpart : ∀ f, f ≤ s.funs.length → sumN f (fun f => szH s σ f + szC s σ f) ≤ f * (400 * 576 + 8 * 150) := fun f hf => sumN_le fun i hi => by
    have h1 : szH s σ i ≤ nN s i * 576 := sumN_le fun j _ => I0.hd_le H _
    have h2 : szC s σ i ≤ ar s i * 150 := sumN_le fun j _ => I0.cm_le H Sm _
    have h3 := Nat.mul_le_mul (nN_le H (f := i) (by omega)) (Nat.le_refl 576)
    have h4 := Nat.mul_le_mul (ar_le H (f := i) (by omega)) (Nat.le_refl 150)
    omega
  refine loop_up s.funs.length (fun f σ' h' => σ' = [I (sumN f fun f => szH s σ f + szC s σ f), I f] ∧ h' = h) ⟨rfl, rfl⟩ (fun k σ' h' ⟨e, _⟩ => by rw [e]; rfl) ?_
  rintro f σ' h' K hf ⟨rfl, rfl⟩ hK
  simp only [g_0, g_1]
  by_cases hlt : f < s.funs.length
  · have hlt' : (f : Int) < s.funs.length := by omega
    have hn4 := nN_le H hlt
    have ha8 := ar_le H hlt
    have hp0 := hpart f hf
    have hp1 : f * (400 * 576 + 8 * 150) ≤ 64 * (400 * 576 + 8 * 150) := Nat.mul_le_mul (by omega) (Nat.le_refl _)
    simp only [w_lss, hlt', decide_true, w_brA, if_true]
    refine rd_hd Rc rfl hlt ?_
    rw [w_len_os]
    refine loop_up (nN s f) (fun i σ' h2 => σ' = [I (sumN f (fun f => szH s σ f + szC s σ f) + sumN i (fun i => (σ.hd (f, i)).length) : Nat), I i] ∧ h2 = h') ⟨by simp [sumN], rfl⟩ (fun k σ' h' ⟨e, _⟩ => by rw [e]; rfl) ?_
    rintro i σ' h2 K2 hi ⟨rfl, rfl⟩ hK2
    simp only [g_0, g_1]
    have hb1 : sumN i (fun i => (σ.hd (f, i)).length) ≤ i * 576 := sumN_le fun j _ => I0.hd_le H _
    have hb2 : i * 576 ≤ 400 * 576 := Nat.mul_le_mul (by omega) (Nat.le_refl _)
    by_cases hlt2 : i < nN s f
    · have hlt2' : (i : Int) < (nN s f : Nat) := by omega
      simp only [w_lss, hlt2', decide_true, w_brA, if_true]
      have hp : okP s (f, i) := ⟨hlt, hlt2⟩
      refine ix_hd (p := (f, i)) Rc hp (ld_hd (p := (f, i)) Rc hp (len_hV ?_))
      have := I0.hd_le H (f, i)
      rw [w_add, w_add, wrap_k (k := i) (by omega), wrap_i64 (by omega) (by omega)]
      refine hK2 hlt2 _ _ ⟨?_, rfl⟩
      rw [sumN_succ]
      simp only [List.cons.injEq, AV.val.injEq, Value.int.injEq, true_and, and_true]
      omega
    · have hie : i = nN s f := by omega
      subst hie
      simp only [w_lss, Int.lt_irrefl, decide_false, w_brA, Bool.false_eq_true, if_false]
      refine rd_cmK Rc rfl hlt ?_
      rw [w_len_os]
      have hsH : sumN (nN s f) (fun i => (σ.hd (f, i)).length) = szH s σ f := rfl
      rw [hsH] at hb1 ⊢
      refine loop_up (ar s f) (fun i σ' h3 => σ' = [I (sumN f (fun f => szH s σ f + szC s σ f) + szH s σ f + sumN i (fun i => (σ.cm (f, i)).length) : Nat), I i] ∧ h3 = h2) ⟨by simp [sumN], rfl⟩ (fun k σ' h' ⟨e, _⟩ => by rw [e]; rfl) ?_
      rintro i σ' h3 K3 hi3 ⟨rfl, rfl⟩ hK3
      simp only [g_0, g_1]
      have hb3 : sumN i (fun i => (σ.cm (f, i)).length) ≤ i * 150 := sumN_le fun j _ => I0.cm_le H Sm _
      have hb4 : i * 150 ≤ 8 * 150 := Nat.mul_le_mul (by omega) (Nat.le_refl _)
      by_cases hlt3 : i < ar s f
      · have hlt3' : (i : Int) < (ar s f : Nat) := by omega
        simp only [w_lss, hlt3', decide_true, w_brA, if_true]
        have hk : okK s (f, i) := ⟨hlt, hlt3⟩
        refine ix_cm (k := (f, i)) Rc hk (ld_cm (k := (f, i)) Rc hk ?_)
        have := I0.cm_le H Sm (f, i)
        rw [w_len_rs, List.length_map, w_add, w_add, wrap_k (k := i) (by omega), wrap_i64 (by omega) (by omega)]
        refine hK3 hlt3 _ _ ⟨?_, rfl⟩
        rw [sumN_succ]
        simp only [List.cons.injEq, AV.val.injEq, Value.int.injEq, true_and, and_true]
        omega
      · have hie : i = ar s f := by omega
        subst hie
        simp only [w_lss, Int.lt_irrefl, decide_false, w_brA, Bool.false_eq_true, if_false]
        rw [w_add, wrap_k (k := f) (by omega)]
        refine hK hlt _ _ ⟨?_, rfl⟩
        rw [sumN_succ]
        have hsC : sumN (ar s f) (fun i => (σ.cm (f, i)).length) = szC s σ f := rfl
        rw [hsC]
        simp only [List.cons.injEq, AV.val.injEq, Value.int.injEq, true_and, and_true]
        omega
  · have hfe : f = s.funs.length := by omega
    subst hfe
    simp only [w_lss, Int.lt_irrefl, decide_false, w_brA, Bool.false_eq_true, if_false]
    exact retA_of hq
end
end Am
set_option linter.unusedVariables false
set_option linter.unusedSimpArgs false
namespace Am
open Go Go.Proofs.Tryz
def KS.setH (σ : KS) (q : Pc) (x : List Pc) : KS := { σ with hd := fun p => if p = q then x else σ.hd p }
def KS.setC (σ : KS) (k : Pc) (x : List Pc) : KS := { σ with cm := fun p => if p = k then x else σ.cm p }
theorem KS.setH_same (σ : KS) (q : Pc) : σ.setH q (σ.hd q) = σ := by
  unfold KS.setH
  have : (fun p => if p = q then σ.hd q else σ.hd p) = σ.hd := by funext p; split <;> simp_all
  rw [this]
section
variable {s : Sch} {R : Nat → Prop} {σ : KS} {hb h : Heap} {l : Lo}
theorem KInv.setH (I : KInv s R σ) {q y : Pc} (hy : FlP s R false q y) : KInv s R (σ.setH q (insK (σ.hd q) y)) where
  sh p h hh := by
    simp only [KS.setH] at hh
    by_cases e : p = q
    · subst e
      rw [if_pos rfl, insK_mem] at hh
      rcases hh with hh | rfl
      · exact I.sh p h hh
      · exact hy
    · rw [if_neg e] at hh; exact I.sh p h hh
  sc := I.sc
  hn p := by
    simp only [KS.setH]
    split
    · exact insK_nodup (I.hn q)
    · exact I.hn p
  cs := I.cs
theorem KInv.setC (I : KInv s R σ) {k y : Pc} (hy : FlP s R true k y) : KInv s R (σ.setC k (srtP (insK (σ.cm k) y))) where
  sh := I.sh
  sc k' p hh := by
    simp only [KS.setC] at hh
    by_cases e : k' = k
    · subst e
      rw [if_pos rfl, srtP_mem, insK_mem] at hh
      rcases hh with hh | rfl
      · exact I.sc k' p hh
      · exact hy
    · rw [if_neg e] at hh; exact I.sc k' p hh
  hn := I.hn
  cs k' := by
    simp only [KS.setC]
    split
    · exact (I.cs k).ins y
    · exact I.cs k'
theorem step_hd (H : SOk s) (I0 : KInv s R σ) (Rc : RC hb (conK s σ l) l h) {q : Pc} (hq : okP s q) (y : Pc) {P : Nat} (hP : l .pa = P) {K : Heap → Prop}
    (hk : ∀ l' h', l' .pa = P → RC hb (conK s (σ.setH q (insK (σ.hd q) y)) l') l' h' → (∀ p, p ≠ q → l' (.hm p) = l (.hm p)) → (y ∈ σ.hd q → l' = l) → K h') :
    callS prog n_vref19_addHead [hV σ l q, kC y] h fun r_18 h_19 =>
      (loadV (.op P 0 3) h_19 fun x_79 => TV.av x_79 = TV.av (.rs 1 (HR s l))) ∧
      (idxA 1 (.rs 1 (HR s l)) (I (q.1 : Nat)) h_19 fun p_78 => TV.av p_78 = TV.av (.ro [.os (l (.cs q.1)) (nN s q.1)])) ∧
      (loadV (.ro [.os (l (.cs q.1)) (nN s q.1)]) h_19 fun x_77 => TV.av x_77 = TV.av (.os (l (.cs q.1)) (nN s q.1))) ∧
      idxA 1 (.os (l (.cs q.1)) (nN s q.1)) (I (q.2 : Nat)) h_19 fun p_20 => oneA r_18 <| storeG p_20 [r_18] h_19 K := by
  have hlen := I0.hd_le H q
  have hx : (hV σ l q = .e0 ∧ σ.hd q = []) ∨ (hV σ l q = .os (l (.hm q)) (σ.hd q).length ∧ conK s σ l (.hm q) = some (.arr 2 ((σ.hd q).map plC))) := by
    unfold hV
    by_cases e : σ.hd q = []
    · exact .inl ⟨by rw [if_pos e], e⟩
    · exact .inr ⟨by rw [if_neg e], by simp only [conK]; rw [if_pos ⟨hq.1, hq.2, e⟩]⟩
  have hx' : (hV σ l q = .e0 ∧ σ.hd q = []) ∨ (hV σ l q = .os (l (.hm q)) (σ.hd q).length ∧ conK s σ l (.hm q) = some (.arr 2 ((σ.hd q).map plC))) := hx
  have h2 : q.2 < nN s q.1 := hq.2
  refine callS_of (vref19_addHead_c Rc (.hm q) hx (by omega) y (fun hy => ?_) fun hy i h' R1 => ?_)
  · have xa : h P = some (.arr 5 [[.rs 2 (syCs s.syms), .rs 5 (fnCs s.funs), .rs 1 (NR s), .rs 1 (HR s l), .rs 1 (CR s l)]]) := by rw [← hP]; exact Rc.own .pa _ rfl
    have xr : h (l (.cs q.1)) = some (.arr 1 ((List.range (nN s q.1)).map fun i => [hV σ l (q.1, i)])) := Rc.own (.cs q.1) _ (by simp only [conK, hq.1, if_true])
    refine ⟨ld xa (by omega) rfl rfl, ix_rs (by rw [HR_len]; exact hq.1) (HR_get hq.1) rfl, by rw [w_loadV_ro], ?_⟩
    refine ix_hd Rc hq ?_
    have one : ∀ k, oneA (hV σ l q) k = k := fun k => by unfold hV; split <;> rfl
    rw [one, w_store xr]
    have egd : ((List.range (nN s q.1)).map fun i => [hV σ l (q.1, i)]).getD q.2 [] = [hV σ l q] := by
      simp [List.getD_eq_getElem?_getD, h2]
    rw [egd]
    refine ⟨by simpa using h2, by simp, ?_⟩
    have eset : ((List.range (nN s q.1)).map fun i => [hV σ l (q.1, i)]).set q.2 (splice [hV σ l q] 0 [hV σ l q]) = (List.range (nN s q.1)).map fun i => [hV σ l (q.1, i)] := by
      refine List.ext_getElem (by simp) fun i h1 h2 => ?_
      simp only [List.getElem_set, List.getElem_map, List.getElem_range]
      split
      · rename_i e; subst e; rfl
      · rfl
    rw [eset, Heap.set_id xr]
    refine hk l h hP ?_ (fun _ _ => rfl) fun _ => rfl
    have : insK (σ.hd q) y = σ.hd q := by rw [insK, if_pos hy]
    rw [this, KS.setH_same]; exact Rc
  · have l1n : ∀ a, a ≠ .hm q → (l.set (.hm q) i) a = l a := fun a ha => Lo.set_ne ha
    have xa : h' P = some (.arr 5 [[.rs 2 (syCs s.syms), .rs 5 (fnCs s.funs), .rs 1 (NR s), .rs 1 (HR s l), .rs 1 (CR s l)]]) := by
      have := R1.own .pa _ (by rw [Con.set_ne (by simp)]; rfl)
      rwa [l1n _ (by simp), hP] at this
    have xr : h' (l (.cs q.1)) = some (.arr 1 ((List.range (nN s q.1)).map fun i => [hV σ l (q.1, i)])) := by
      have := R1.own (.cs q.1) (.arr 1 ((List.range (nN s q.1)).map fun i => [hV σ l (q.1, i)])) (by rw [Con.set_ne (by simp)]; simp only [conK, hq.1, if_true])
      rwa [l1n _ (by simp)] at this
    refine ⟨ld xa (by omega) rfl rfl, ix_rs (by rw [HR_len]; exact hq.1) (HR_get hq.1) rfl, by rw [w_loadV_ro], ?_⟩
    rw [w_idx_os xr]
    refine ⟨rfl, by omega, by omega, by simp, ?_⟩
    rw [w_one_os, w_store xr, Int.toNat_natCast]
    refine ⟨by simpa using h2, by simp [List.getD_eq_getElem?_getD, h2], ?_⟩
    have R2 := R1.upd (a := .cs q.1) (.arr 1 (((List.range (nN s q.1)).map fun i => [hV σ l (q.1, i)]).set q.2 [.os i ((σ.hd q).length + 1)])) (m := .arr 1 ((List.range (nN s q.1)).map fun i => [hV σ l (q.1, i)])) (by rw [Con.set_ne (by simp)]; simp only [conK, hq.1, if_true])
    rw [l1n _ (by simp)] at R2
    have egd : ((List.range (nN s q.1)).map fun i => [hV σ l (q.1, i)]).getD q.2 [] = [hV σ l q] := by
      simp [List.getD_eq_getElem?_getD, h2]
    rw [egd]
    have ei : insK (σ.hd q) y = σ.hd q ++ [y] := by rw [insK, if_neg hy]
    refine hk (l.set (.hm q) i) _ (by rw [l1n _ (by simp)]; exact hP) (R2.weak fun a n ha => ?_) (fun p hp => l1n _ (by simpa using hp)) fun h => absurd h hy
    have hVn : ∀ p, p ≠ q → hV (σ.setH q (insK (σ.hd q) y)) (l.set (.hm q) i) p = hV σ l p := fun p hp => by
      simp only [hV, KS.setH, if_neg hp]
      rw [l1n _ (by simpa using hp)]
    have hVq : hV (σ.setH q (insK (σ.hd q) y)) (l.set (.hm q) i) q = .os i ((σ.hd q).length + 1) := by
      simp [hV, KS.setH, ei]
    cases a with
    | cs f =>
      by_cases e : f = q.1
      · subst e
        have : ((List.range (nN s q.1)).map fun j => [hV (σ.setH q (insK (σ.hd q) y)) (l.set (.hm q) i) (q.1, j)]) = ((List.range (nN s q.1)).map fun j => [hV σ l (q.1, j)]).set q.2 [.os i ((σ.hd q).length + 1)] := by
          refine List.ext_getElem (by simp) fun j h1 h2 => ?_
          simp only [List.getElem_set, List.getElem_map, List.getElem_range]
          by_cases e : q.2 = j
          · subst e; rw [if_pos rfl]; rw [show (q.1, q.2) = q from rfl, hVq]
          · rw [if_neg e, hVn (q.1, j) fun h => e (congrArg Prod.snd h).symm]
        simp only [conK, hq.1, if_true, this] at ha
        simpa [Con.set] using ha
      · have : ((List.range (nN s f)).map fun j => [hV (σ.setH q (insK (σ.hd q) y)) (l.set (.hm q) i) (f, j)]) = (List.range (nN s f)).map fun j => [hV σ l (f, j)] := List.map_congr_left fun j _ => by
          rw [hVn (f, j) fun h => e (congrArg Prod.fst h)]
        simp only [conK, this] at ha
        rw [Con.set_ne (by simpa using e), Con.set_ne (by simp)]
        exact ha
    | hm p =>
      by_cases e : p = q
      · subst e
        simp only [conK, KS.setH, if_true, ei] at ha
        rw [if_pos ⟨hq.1, h2, by simp⟩] at ha
        simpa [Con.set] using ha
      · simp only [conK, KS.setH, if_neg e] at ha
        rw [Con.set_ne (by simp), Con.set_ne (by simpa using e)]
        exact ha
    | pa =>
      have e1 : HR s (l.set (.hm q) i) = HR s l := by simp [HR, Lo.set]
      have e2 : CR s (l.set (.hm q) i) = CR s l := by simp [CR, Lo.set]
      simp only [conK, e1, e2] at ha
      rw [Con.set_ne (by simp), Con.set_ne (by simp)]
      exact ha
    | _ =>
      rw [Con.set_ne (by simp), Con.set_ne (by simp)]
      exact ha
structure Look (s : Sch) (R : Nat → Prop) (σ : KS) (q : Pc) (σ' : KS) : Prop where
  inv : KInv s R σ'
  cm : σ'.cm = σ.cm
  oth : ∀ p, p ≠ q → σ'.hd p = σ.hd p
  ext : ∀ h, h ∈ σ.hd q → h ∈ σ'.hd q
  fn : ∀ g : Nat, labP s q = (1, (g : Int)) → (g, 0) ∈ σ'.hd q
  var : ∀ i : Nat, labP s q = (0, (i : Int)) → ∀ p, p ∈ σ.cm (q.1, i) → ∀ h, h ∈ σ.hd p → (h.1, h.2 + nA s p) ∈ σ'.hd q
theorem self_nA (H : SOk s) {q : Pc} {i : Nat} (hl : labP s q = (0, (i : Int))) (hc : FlP s R true (q.1, i) q) : nA s q = 0 := by
  obtain ⟨_, t2, _, t4⟩ := (hc.typed H).2 rfl
  obtain ⟨_, _, v3⟩ := head_var H t2 hl
  rw [Int.toNat_natCast] at v3
  have T := tyOk H t2
  have h1 : tyP s q = hsort s q := by rw [v3]; exact t4
  rw [T.ty] at h1
  have h2 := congrArg (fun t => t.kids.length) h1
  simp only [kids_mk, List.length_drop] at h2
  have := T.le
  omega
theorem look_loop (H : SOk s) (Sm : Small s) (I0 : KInv s R σ) (Rc : RC hb (conK s σ l) l h) {P : Nat} (hP : l .pa = P) {q : Pc} (hq : okP s q) {i : Nat} (hl : labP s q = (0, (i : Int))) (hi : i < ar s q.1) {Q : AV → Heap → Prop}
    (hQ : ∀ σ' l' h', Look s R σ q σ' → l' .pa = P → RC hb (conK s σ' l') l' h' → Q (.tup []) h') :
    (nilA (.op P 0 0) <|
     fldA 4 (.op P 0 0) fun p_81 =>
     loadV p_81 h fun x_82 =>
     idxA 1 x_82 (I (q.1 : Nat)) h fun p_83 =>
     loadV p_83 h fun x_84 =>
     idxA 1 x_84 (I (i : Nat)) h fun p_85 =>
     loadV p_85 h fun x_86 =>
     lenA x_86 fun x_87 =>
     loopS (fun s_88 h_89 K_90 =>
     binA .lss (g s_88 0) x_87 fun x_91 =>
     brA x_91 (idxA 2 x_86 (g s_88 0) h_89 fun p_92 =>
     loadG 2 p_92 h_89 fun c_93 =>
     nilA (.op P 0 0) <|
     fldA 3 (.op P 0 0) fun p_94 =>
     loadV p_94 h_89 fun x_95 =>
     idxA 1 x_95 (g c_93 0) h_89 fun p_96 =>
     loadV p_96 h_89 fun x_97 =>
     idxA 1 x_97 (g c_93 1) h_89 fun p_98 =>
     loadV p_98 h_89 fun x_99 =>
     lenA x_99 fun x_100 =>
     loopS (fun s_101 h_102 K_103 =>
     binA .lss (g s_101 0) x_100 fun x_104 =>
     brA x_104 (idxA 2 x_99 (g s_101 0) h_102 fun p_105 =>
     loadG 2 p_105 h_102 fun c_106 =>
     nilA (.op P 0 0) <|
     fldA 3 (.op P 0 0) fun p_107 =>
     loadV p_107 h_102 fun x_108 =>
     idxA 1 x_108 (I (q.1 : Nat)) h_102 fun p_109 =>
     loadV p_109 h_102 fun x_110 =>
     nilA (.op P 0 0) <|
     fldA 3 (.op P 0 0) fun p_111 =>
     loadV p_111 h_102 fun x_112 =>
     idxA 1 x_112 (I (q.1 : Nat)) h_102 fun p_113 =>
     loadV p_113 h_102 fun x_114 =>
     idxA 1 x_114 (I (q.2 : Nat)) h_102 fun p_115 =>
     loadV p_115 h_102 fun x_116 =>
     nilA (.op P 0 0) <|
     fldA 2 (.op P 0 0) fun p_117 =>
     loadV p_117 h_102 fun x_118 =>
     idxA 1 x_118 (g c_93 0) h_102 fun p_119 =>
     loadV p_119 h_102 fun x_120 =>
     idxA 3 x_120 (g c_93 1) h_102 fun p_121 =>
     fldA 2 p_121 fun p_122 =>
     loadV p_122 h_102 fun x_123 =>
     lenA x_123 fun x_124 =>
     binA .add (g c_106 1) x_124 fun x_125 =>
     oneA (g c_106 0) <|
     oneA x_125 <|
     callS prog n_vref19_addHead [x_116, (.agg [(g c_106 0), x_125])] h_102 fun r_126 h_127 =>
     (loadV p_107 h_127 fun x_133 =>
     TV.av x_133 = TV.av x_108) ∧
     (idxA 1 x_108 (I (q.1 : Nat)) h_127 fun p_132 =>
     TV.av p_132 = TV.av p_109) ∧
     (loadV p_109 h_127 fun x_131 =>
     TV.av x_131 = TV.av x_110) ∧
     idxA 1 x_110 (I (q.2 : Nat)) h_127 fun p_128 =>
     oneA r_126 <|
     storeG p_128 [r_126] h_127 fun h_129 =>
     binA .add (g s_101 0) (I 1) fun x_130 =>
     K_103 [x_130] h_129) (binA .add (g s_88 0) (I 1) fun x_134 =>
     K_90 [x_134] h_102)) [(I 0)] h_89) (retA (.tup []) h_89 Q)) [(I 0)] h) := by
  have hk : okK s (q.1, i) := ⟨hq.1, hi⟩
  have hcm := I0.cm_le H Sm (q.1, i)
  refine rd_cmK Rc hP hq.1 (ix_cm (k := (q.1, i)) Rc hk (ld_cm (k := (q.1, i)) Rc hk ?_))
  simp only [w_len_rs, List.length_map]
  refine loop_up (σ.cm (q.1, i)).length (fun a σ' h' => σ' = [I a] ∧ ∃ σ1 l1, l1 .pa = P ∧ RC hb (conK s σ1 l1) l1 h' ∧ KInv s R σ1 ∧ σ1.cm = σ.cm ∧ (∀ p, p ≠ q → σ1.hd p = σ.hd p) ∧ (∀ h, h ∈ σ.hd q → h ∈ σ1.hd q) ∧
      ∀ b (hb : b < (σ.cm (q.1, i)).length), b < a → ∀ h, h ∈ σ.hd (σ.cm (q.1, i))[b] → (h.1, h.2 + nA s (σ.cm (q.1, i))[b]) ∈ σ1.hd q) ⟨rfl, σ, l, hP, Rc, I0, rfl, fun _ _ => rfl, fun _ h => h, fun b _ h0 => by omega⟩ (fun k σ' h' ⟨e, _⟩ => by rw [e]; rfl) ?_
  rintro a σ' h1 K ha ⟨rfl, σ1, l1, e1, R1, I1, c1, o1, x1, f1⟩ hK
  simp only [g_0]
  by_cases hlt : a < (σ.cm (q.1, i)).length
  · have hlt' : (a : Int) < (σ.cm (q.1, i)).length := by omega
    simp only [w_lss, hlt', decide_true, w_brA, if_true]
    refine ix_rs (by simpa using hlt) (plC_get hlt) ?_
    rw [w_loadG_ro]
    refine ⟨by simp, ?_⟩
    simp only [g_0, g_1]
    obtain ⟨p, hp⟩ : ∃ p, p = (σ.cm (q.1, i))[a] := ⟨_, rfl⟩
    rw [← hp]
    have hpm : FlP s R true (q.1, i) p := I0.sc _ _ (hp ▸ List.getElem_mem hlt)
    obtain ⟨_, hpo, _, _⟩ := (hpm.typed H).2 rfl
    have hnp := nA_le H hpo
    refine rd_hd R1 e1 hpo.1 (ix_hd R1 hpo (ld_hd R1 hpo (len_hV ?_)))
    have hhl := I1.hd_le H p
    refine loop_up (σ1.hd p).length (fun b σ' h' => σ' = [I b] ∧ ∃ σ2 l2, l2 .pa = P ∧ RC hb (conK s σ2 l2) l2 h' ∧ KInv s R σ2 ∧ σ2.cm = σ.cm ∧ (∀ p, p ≠ q → σ2.hd p = σ1.hd p ∧ l2 (.hm p) = l1 (.hm p)) ∧ (∀ h, h ∈ σ1.hd q → h ∈ σ2.hd q) ∧ (p = q → σ2.hd q = σ1.hd q ∧ l2 (.hm q) = l1 (.hm q)) ∧
        ∀ d (hd : d < (σ1.hd p).length), d < b → ((σ1.hd p)[d].1, (σ1.hd p)[d].2 + nA s p) ∈ σ2.hd q) ⟨rfl, σ1, l1, e1, R1, I1, c1, fun _ _ => ⟨rfl, rfl⟩, fun _ h => h, fun _ => ⟨rfl, rfl⟩, fun d _ h0 => by omega⟩ (fun k σ' h' ⟨e, _⟩ => by rw [e]; rfl) ?_
    rintro b σ' h2 K2 hb2 ⟨rfl, σ2, l2, e2, R2, I2, c2, o2, x2, s2, f2⟩ hK2
    simp only [g_0]
    by_cases hlt2 : b < (σ1.hd p).length
    · have hlt2' : (b : Int) < (σ1.hd p).length := by omega
      simp only [w_lss, hlt2', decide_true, w_brA, if_true]
      have hsame : σ2.hd p = σ1.hd p ∧ l2 (.hm p) = l1 (.hm p) := by
        by_cases e : p = q
        · subst e; exact s2 rfl
        · exact o2 p e
      have hne : σ1.hd p ≠ [] := fun e => by rw [e] at hlt2; simp at hlt2
      have hxv : hV σ1 l1 p = .os (l1 (.hm p)) (σ1.hd p).length := by rw [hV, if_neg hne]
      have hxn : h2 (l1 (.hm p)) = some (.arr 2 ((σ1.hd p).map plC)) := by
        rw [← hsame.2, ← hsame.1]
        exact R2.own (.hm p) _ (by simp only [conK]; rw [if_pos ⟨hpo.1, hpo.2, by rw [hsame.1]; exact hne⟩])
      rw [hxv, w_idx_os hxn]
      refine ⟨rfl, by omega, hlt2', by simp, ?_⟩
      rw [Int.toNat_natCast, w_loadG_op hxn, plC_get hlt2]
      refine ⟨by simpa using hlt2, by omega, ?_⟩
      simp only [List.drop_zero, g_0, g_1]
      obtain ⟨hh, hhh⟩ : ∃ hh, hh = (σ1.hd p)[b] := ⟨_, rfl⟩
      rw [← hhh]
      have hhF : FlP s R false p hh := I1.sh p hh (hhh ▸ List.getElem_mem hlt2)
      obtain ⟨_, t2, t3, _⟩ := (hhF.typed H).1 rfl
      have t4 := ar_le H t2
      refine rd_hd R2 e2 hq.1 (rd_hd R2 e2 hq.1 (ix_hd R2 hq (ld_hd R2 hq ?_)))
      have xa : h2 P = some (.arr 5 [[.rs 2 (syCs s.syms), .rs 5 (fnCs s.funs), .rs 1 (NR s), .rs 1 (HR s l2), .rs 1 (CR s l2)]]) := by rw [← e2]; exact R2.own .pa _ rfl
      refine rdK (x := .rs 1 (NR s)) xa (by omega) rfl ?_
      refine ix_rs (by rw [NR_len]; exact hpo.1) (NR_get hpo.1) ?_
      rw [w_loadV_ro]
      refine ix_rs (by rw [tmCs_len, pre_len]; exact hpo.2) (pre_lab hpo) ?_
      rw [tmC_eq, w_fld_ro, List.drop_succ_cons, List.drop_succ_cons, List.drop_zero, w_loadV_ro, w_len_rs, tmCs_len, ← (nd_args hpo).1]
      rw [w_add, show IntKind.i64.wrap (((hh.2 : Nat) : Int) + (nA s p : Nat)) = ((hh.2 + nA s p : Nat) : Int) by rw [wrap_i64 (by omega) (by omega)]; simp]
      rw [w_one_v, w_one_v]
      have hy : FlP s R false q (hh.1, hh.2 + nA s p) := .var hq hl hpm hhF
      refine step_hd (y := (hh.1, hh.2 + nA s p)) H I2 R2 hq e2 fun l3 h3 e3 R3 n3 s3 => ?_
      rw [w_add, wrap_k (k := b) (by omega)]
      have hset : ∀ p', p' ≠ q → (σ2.setH q (insK (σ2.hd q) (hh.1, hh.2 + nA s p))).hd p' = σ2.hd p' := fun p' hp' => by simp only [KS.setH, if_neg hp']
      have hsetq : (σ2.setH q (insK (σ2.hd q) (hh.1, hh.2 + nA s p))).hd q = insK (σ2.hd q) (hh.1, hh.2 + nA s p) := by simp only [KS.setH, if_true]
      refine hK2 hlt2 _ _ ⟨rfl, _, l3, e3, R3, I2.setH hy, c2, fun p' hp' => ⟨(hset p' hp').trans (o2 p' hp').1, (n3 p' hp').trans (o2 p' hp').2⟩, fun h hh => ?_, fun e => ?_, fun d hd hdb => ?_⟩
      · rw [hsetq, insK_mem]; exact .inl (x2 h hh)
      · subst e
        have h0 : nA s p = 0 := self_nA H hl hpm
        have hin : (hh.1, hh.2 + nA s p) ∈ σ2.hd p := by
          rw [h0, (s2 rfl).1]
          show hh ∈ σ1.hd p
          rw [hhh]; exact List.getElem_mem hlt2
        rw [hsetq, insK, if_pos hin, s3 hin]
        exact s2 rfl
      · rw [hsetq, insK_mem]
        by_cases e : d = b
        · subst e; rw [← hhh]; exact .inr rfl
        · exact .inl (f2 d hd (by omega))
    · have hbe : b = (σ1.hd p).length := by omega
      subst hbe
      simp only [w_lss, Int.lt_irrefl, decide_false, w_brA, Bool.false_eq_true, if_false]
      rw [w_add, wrap_k (k := a) (by omega)]
      refine hK hlt _ _ ⟨rfl, σ2, l2, e2, R2, I2, c2, fun p' hp' => (o2 p' hp').1.trans (o1 p' hp'), fun h hh => x2 h (x1 h hh), fun d hd hda h hh => ?_⟩
      by_cases e : d = a
      · subst e
        rw [← hp] at hh ⊢
        have hh1 : h ∈ σ1.hd p := by
          by_cases e : p = q
          · rw [e] at hh ⊢; exact x1 h hh
          · rw [o1 p e]; exact hh
        obtain ⟨j, hj, e⟩ := List.mem_iff_getElem.1 hh1
        have := f2 j hj hj
        rwa [e] at this
      · exact x2 _ (f1 d hd (by omega) h hh)
  · have hae : a = (σ.cm (q.1, i)).length := by omega
    subst hae
    simp only [w_lss, Int.lt_irrefl, decide_false, w_brA, Bool.false_eq_true, if_false]
    refine retA_of (hQ σ1 l1 h1 ⟨I1, c1, o1, x1, fun g hg => ?_, fun i' hi' p hp h hh => ?_⟩ e1 R1)
    · rw [hl] at hg; simp at hg
    · rw [hl] at hi'
      have : i' = i := by simp at hi'; omega
      subst this
      obtain ⟨b, hb2, e⟩ := List.mem_iff_getElem.1 hp
      have := f1 b hb2 hb2 h (by rw [e]; exact hh)
      rwa [e] at this
theorem vref19_look_c (H : SOk s) (Sm : Small s) (I0 : KInv s R σ) (Rc : RC hb (conK s σ l) l h) {q : Pc} (hq : okP s q) {Q : AV → Heap → Prop}
    (hQ : ∀ σ' l' h', Look s R σ q σ' → l' .pa = l .pa → RC hb (conK s σ' l') l' h' → Q (.tup []) h') : ACalls prog n_vref19_state_look [.op (l .pa) 0 0, I (q.1 : Nat), I (q.2 : Nat)] h Q := by
  refine vref19_state_look_call ?_
  unfold vref19_state_look
  have xa : h (l .pa) = some (.arr 5 [[.rs 2 (syCs s.syms), .rs 5 (fnCs s.funs), .rs 1 (NR s), .rs 1 (HR s l), .rs 1 (CR s l)]]) := Rc.own .pa _ rfl
  refine rdK (x := .rs 1 (NR s)) xa (by omega) rfl ?_
  refine ix_rs (by rw [NR_len]; exact hq.1) (NR_get hq.1) ?_
  rw [w_loadV_ro]
  refine ix_rs (by rw [tmCs_len, pre_len]; exact hq.2) (pre_lab hq) ?_
  rw [w_loadG_ro]
  refine ⟨by simp, ?_⟩
  simp only [tmC_0, tmC_1, w_eql, w_brA]
  obtain ⟨lb, hlb⟩ : ∃ lb, lb = labP s q := ⟨_, rfl⟩
  have e0 : (ndS s q).1.lab = lb := by rw [hlb]; rfl
  rw [e0]
  obtain ⟨kd, n⟩ := lb
  by_cases k1 : kd = 1
  · subst k1
    obtain ⟨h0, h1, _⟩ := head_fun H hq hlb.symm
    obtain ⟨gg, rfl⟩ : ∃ gg : Nat, n = gg := ⟨n.toNat, by omega⟩
    simp only [decide_true, if_true]
    refine rd_hd Rc rfl hq.1 (rd_hd Rc rfl hq.1 (ix_hd Rc hq (ld_hd Rc hq ?_)))
    rw [w_one_v, w_one_v]
    have hy : FlP s R false q (gg, 0) := .fn hq hlb.symm
    refine step_hd (y := (gg, 0)) H I0 Rc hq rfl fun l3 h3 e3 R3 n3 s3 => ?_
    simp only [show ¬ ((1 : Int) = 0) by omega, decide_false, Bool.false_eq_true, if_false]
    refine retA_of (hQ _ l3 h3 ⟨I0.setH hy, rfl, fun p hp => by simp only [KS.setH, if_neg hp], fun h hh => ?_, fun g hg => ?_, fun i hi => ?_⟩ e3 R3)
    · simp only [KS.setH, if_true, insK_mem]; exact .inl hh
    · rw [← hlb] at hg
      have : g = gg := by simp at hg; omega
      subst this
      simp only [KS.setH, if_true, insK_mem, or_true]
    · rw [← hlb] at hi; simp at hi
  · simp only [k1, decide_false, Bool.false_eq_true, if_false]
    by_cases k0 : kd = 0
    · subst k0
      obtain ⟨h0, h1, _⟩ := head_var H hq hlb.symm
      obtain ⟨ii, rfl⟩ : ∃ ii : Nat, n = ii := ⟨n.toNat, by omega⟩
      simp only [decide_true, if_true]
      exact look_loop H Sm I0 Rc rfl hq hlb.symm (by omega) hQ
    · simp only [k0, decide_false, Bool.false_eq_true, if_false]
      refine retA_of (hQ σ l h ⟨I0, rfl, fun _ _ => rfl, fun _ h => h, fun g hg => ?_, fun i hi => ?_⟩ rfl Rc)
      · rw [← hlb] at hg; simp at hg; exact absurd hg.1 k1
      · rw [← hlb] at hi; simp at hi; exact absurd hi.1 k0
end
end Am
