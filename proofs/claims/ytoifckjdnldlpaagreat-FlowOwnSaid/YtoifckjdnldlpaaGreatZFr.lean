/- small, heavy; lent arguments; FlowLess answers true. -/
import Derived.Test.YtoifckjdnldlpaaGreatZFq
import Derived.Test.YtoifckjdnldlpaaGreatZFV
import Derived.Test.YtoifckjdnldlpaaGreatZM6
set_option linter.unusedVariables false
set_option linter.unusedSimpArgs false
namespace Am
open Go Go.Proofs.Tryz
def hE : Heap := fun _ => none
def totN (l : List Fn) : Nat := (l.map fun f => min f.body.nodes 401).sum
theorem vlaw19_small_c (s : Sch) (hl : s.funs.length ≤ 64) {h : Heap} {Q : AV → Heap → Prop} (hq : Q (B (decide (totN s.funs ≤ 150))) h) : ACalls prog n_vlaw19_small [sm s] h Q := by
  refine vlaw19_small_call ?_
  unfold vlaw19_small sm
  simp only [w_agg, List.length_cons, List.length_nil, true_and, g_0, g_1, w_len_rs, fnCs_len]
  have hb : ∀ k, k ≤ s.funs.length → totN (s.funs.take k) ≤ k * 401 := fun k => by
    induction k with
    | zero => intro _; simp [totN]
    | succ k ih =>
      intro hk
      have := ih (by omega)
      rw [List.take_succ_eq_append_getElem (by omega)]
      simp only [totN, List.map_append, List.map_cons, List.map_nil, List.sum_append, List.sum_cons, List.sum_nil] at this ⊢
      omega
  refine loop_up s.funs.length (fun k σ h' => σ = [I (totN (s.funs.take k) : Nat), I k] ∧ h' = h) ⟨rfl, rfl⟩ (fun k σ' h' ⟨e, _⟩ => by rw [e]; rfl) ?_
  rintro k σ h' K hk ⟨rfl, rfl⟩ hK
  simp only [g_0, g_1]
  by_cases hlt : k < s.funs.length
  · have hlt' : (k : Int) < s.funs.length := by omega
    simp only [w_lss, hlt', decide_true, w_brA, if_true]
    refine ix_rs (by rw [fnCs_len]; exact hlt) (fnCs_get hlt) ?_
    rw [fnC, w_loadG_ro]
    refine ⟨by simp, callS_of ?_⟩
    simp only [g_2, g_3, g_4]
    rw [tm_eta]
    refine vref02_Nodes_c _ (m := 400) (by omega) ?_
    have h1 := hb k hk
    have h3 : k * 401 ≤ 64 * 401 := Nat.mul_le_mul (by omega) (Nat.le_refl _)
    have h2 : totN (s.funs.take (k + 1)) = totN (s.funs.take k) + min s.funs[k].body.nodes 401 := by
      rw [List.take_succ_eq_append_getElem hlt]
      simp only [totN, List.map_append, List.map_cons, List.map_nil, List.sum_append, List.sum_cons, List.sum_nil, Nat.add_zero]
    rw [w_add, w_add, wrap_k (k := k) (by omega), wrap_i64 (by omega) (by omega)]
    refine hK hlt _ _ ⟨?_, rfl⟩
    rw [h2]; simp
  · have hkn : k = s.funs.length := by omega
    subst hkn
    simp only [w_lss, Int.lt_irrefl, decide_false, w_brA, Bool.false_eq_true, if_false, w_leq]
    rw [List.take_length]
    refine retA_of ?_
    have : decide (((totN s.funs : Nat) : Int) ≤ 150) = decide (totN s.funs ≤ 150) := by congr 1; apply propext; omega
    rw [this]; exact hq
theorem allPl_len (s : Sch) : (allPl s).length = (s.funs.map fun f => f.body.nodes).sum := by
  have : ∀ (l : List Nat), (l.flatMap fun f => (List.range (s.funs.getD f default).body.nodes).map fun i => (f, i)).length = (l.map fun f => (s.funs.getD f default).body.nodes).sum := fun l => by
    induction l with
    | nil => rfl
    | cons f l ih => simp only [List.flatMap_cons, List.length_append, List.length_map, List.length_range, List.map_cons, List.sum_cons, ih]
  rw [allPl, this]
  congr 1
  refine List.ext_getElem (by simp) fun i h1 h2 => ?_
  have hi : i < s.funs.length := by simpa using h1
  simp [List.getD_eq_getElem?_getD, hi]
theorem tot_small {s : Sch} (H : SOk s) : totN s.funs ≤ 150 ↔ Small s := by
  have : totN s.funs = (allPl s).length := by
    rw [allPl_len]
    unfold totN
    congr 1
    refine List.map_congr_left fun f hf => ?_
    have := H.body hf
    omega
  rw [this]; rfl
theorem vlaw19_heavy_c (s : Sch) {h : Heap} {Q : AV → Heap → Prop} (h1 : SOk s → ¬ Small s → Q (B true) h) (h2 : (SOk s → Small s) → Q (B false) h) : ACalls prog n_vlaw19_heavy [sm s] h Q := by
  refine vlaw19_heavy_call ?_
  unfold vlaw19_heavy sm
  simp only [w_agg, List.length_cons, List.length_nil, true_and, g_0, g_1]
  refine callS_of (vref03_Is_c s ?_)
  by_cases H : SOk s
  · rw [(schB_iff s).2 H]
    simp only [w_brA, if_true]
    refine callS_of (vlaw19_small_c s H.few ?_)
    rw [w_notA]
    refine retA_of ?_
    by_cases Sm : Small s
    · simp only [(tot_small H).2 Sm, decide_true, Bool.not_true]
      exact h2 fun _ => Sm
    · simp only [mt (tot_small H).1 Sm, decide_false, Bool.not_false]
      exact h1 H Sm
  · have e : schB s = false := by
      cases h : schB s with
      | false => rfl
      | true => exact absurd ((schB_iff s).1 h) H
    rw [e]
    simp only [w_brA, Bool.false_eq_true, if_false]
    exact retA_of (h2 fun hs => absurd hs H)
section
variable {s : Sch} {more : Fn}
theorem IsFlow.eq {s s' : Sch} {bl bl' : List Bool} {F F' : Pc → List Pc} (h : IsFlow s bl F) (h' : IsFlow s' bl' F') {k : Pc} (hk : ∀ p, FlP s (Rb bl) true k p ↔ FlP s' (Rb bl') true k p) : F k = F' k := by
  obtain ⟨l, hn, e⟩ := h.ord k
  obtain ⟨l', hn', e'⟩ := h'.ord k
  rw [e, e']
  refine srtP_perm ((List.perm_ext_iff_of_nodup hn hn').2 fun p => ?_)
  rw [← srtP_mem (l := l), ← srtP_mem (l := l'), ← e, ← e', h.mem, h'.mem, hk]
end
theorem flowC_get {s : Sch} (F : Pc → List Pc) {f : Nat} (hf : f < s.funs.length) : ((List.range s.funs.length).map fun f => [AV.rs 1 ((List.range (ar s f)).map fun i => [.rs 2 ((F (f, i)).map plC)])]).getD f [] = [.rs 1 ((List.range (ar s f)).map fun i => [.rs 2 ((F (f, i)).map plC)])] := by
  simp [List.getD_eq_getElem?_getD, hf]
theorem row_get {n : Nat} (F : Nat → List Pc) {i : Nat} (hi : i < n) : ((List.range n).map fun i => [AV.rs 2 ((F i).map plC)]).getD i [] = [.rs 2 ((F i).map plC)] := by
  simp [List.getD_eq_getElem?_getD, hi]
theorem plC_get {l : List Pc} {k : Nat} (hk : k < l.length) : (l.map plC).getD k [] = plC l[k] := by
  simp [List.getD_eq_getElem?_getD, hk]
end Am
