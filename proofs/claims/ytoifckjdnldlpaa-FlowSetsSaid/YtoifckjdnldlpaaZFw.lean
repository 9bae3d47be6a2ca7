/- The reference's state, how it lies, and its size. -/
import Derived.Test.YtoifckjdnldlpaaZFv
set_option linter.unusedVariables false
set_option linter.unusedSimpArgs false
namespace Am
open Go Go.Proofs.Try
structure KS where
  hd : Pc → List Pc
  cm : Pc → List Pc
def nN (s : Sch) (f : Nat) : Nat := (s.funs.getD f default).body.nodes
def NR (s : Sch) : List (List AV) := s.funs.map fun f => [.rs 3 (tmCs (preT_ f.body))]
def HR (s : Sch) (l : Lo) : List (List AV) := (List.range s.funs.length).map fun f => [.os (l (.cs f)) (nN s f)]
def CR (s : Sch) (l : Lo) : List (List AV) := (List.range s.funs.length).map fun f => [.os (l (.tmp f)) (ar s f)]
def hV (σ : KS) (l : Lo) (p : Pc) : AV := if σ.hd p = [] then .e0 else .os (l (.hm p)) (σ.hd p).length
def conK (s : Sch) (σ : KS) (l : Lo) : Con
  | .pa => some (.arr 5 [[.rs 2 (syCs s.syms), .rs 5 (fnCs s.funs), .rs 1 (NR s), .rs 1 (HR s l), .rs 1 (CR s l)]])
  | .cs f => if f < s.funs.length then some (.arr 1 ((List.range (nN s f)).map fun i => [hV σ l (f, i)])) else none
  | .tmp f => if f < s.funs.length then some (.arr 1 ((List.range (ar s f)).map fun i => [.rs 2 ((σ.cm (f, i)).map plC)])) else none
  | .hm p => if p.1 < s.funs.length ∧ p.2 < nN s p.1 ∧ σ.hd p ≠ [] then some (.arr 2 ((σ.hd p).map plC)) else none
  | _ => none
structure KInv (s : Sch) (R : Nat → Prop) (σ : KS) : Prop where
  sh : ∀ p h, h ∈ σ.hd p → FlP s R false p h
  sc : ∀ k p, p ∈ σ.cm k → FlP s R true k p
  hn : ∀ p, (σ.hd p).Nodup
  cs : ∀ k, Srtd (σ.cm k)
def sumN (n : Nat) (f : Nat → Nat) : Nat := ((List.range n).map f).sum
theorem sumN_succ (n : Nat) (f : Nat → Nat) : sumN (n + 1) f = sumN n f + f n := by simp [sumN, List.range_succ]
theorem sumN_le {n m : Nat} {f : Nat → Nat} (h : ∀ i, i < n → f i ≤ m) : sumN n f ≤ n * m := by
  induction n with
  | zero => simp [sumN]
  | succ n ih =>
    rw [sumN_succ, Nat.succ_mul]
    have := ih fun i hi => h i (by omega)
    have := h n (by omega)
    omega
theorem sumN_mono {n : Nat} {f g : Nat → Nat} (h : ∀ i, i < n → f i ≤ g i) : sumN n f ≤ sumN n g := by
  induction n with
  | zero => simp [sumN]
  | succ n ih =>
    rw [sumN_succ, sumN_succ]
    have := ih fun i hi => h i (by omega)
    have := h n (by omega)
    omega
theorem sumN_eq {n : Nat} {f g : Nat → Nat} (h : ∀ i, i < n → f i ≤ g i) (he : sumN n f = sumN n g) : ∀ i, i < n → f i = g i := by
  induction n with
  | zero => intro i hi; omega
  | succ n ih =>
    rw [sumN_succ, sumN_succ] at he
    have h1 := sumN_mono (n := n) (f := f) (g := g) fun i hi => h i (by omega)
    have h2 := h n (by omega)
    intro i hi
    by_cases e : i = n
    · subst e; omega
    · exact ih (fun i hi => h i (by omega)) (by omega) i (by omega)
def szH (s : Sch) (σ : KS) (f : Nat) : Nat := sumN (nN s f) fun i => (σ.hd (f, i)).length
def szC (s : Sch) (σ : KS) (f : Nat) : Nat := sumN (ar s f) fun i => (σ.cm (f, i)).length
def szK (s : Sch) (σ : KS) : Nat := sumN s.funs.length fun f => szH s σ f + szC s σ f
section
variable {s : Sch} {R : Nat → Prop} {σ : KS} {hb h : Heap} {l : Lo}
theorem KInv.hd_le (H : SOk s) (I : KInv s R σ) (p : Pc) : (σ.hd p).length ≤ 576 :=
  Nat.le_trans (List.Nodup.length_le_of_subset (I.hn p) fun h hh => by
    obtain ⟨_, h2, h3, _⟩ := ((I.sh p h hh).typed H).1 rfl
    exact mem_allHd.2 ⟨h2, h3⟩) (allHd_len H)
theorem KInv.cm_le (H : SOk s) (Sm : Small s) (I : KInv s R σ) (k : Pc) : (σ.cm k).length ≤ 150 :=
  Nat.le_trans (List.Nodup.length_le_of_subset (I.cs k).2 fun p hp => mem_allPl.2 (((I.sc k p hp).typed H).2 rfl).2.1) Sm
theorem nN_le (H : SOk s) {f : Nat} (hf : f < s.funs.length) : nN s f ≤ 400 := H.body (getD_mem hf)
theorem szK_le (H : SOk s) (Sm : Small s) (I : KInv s R σ) : szK s σ ≤ 64 * (400 * 576 + 8 * 150) := by
  refine Nat.le_trans (sumN_le (m := 400 * 576 + 8 * 150) fun f hf => ?_) (Nat.mul_le_mul H.few (Nat.le_refl _))
  have h1 : szH s σ f ≤ nN s f * 576 := sumN_le fun i _ => I.hd_le H _
  have h2 : szC s σ f ≤ ar s f * 150 := sumN_le fun i _ => I.cm_le H Sm _
  have h3 := Nat.mul_le_mul (nN_le H hf) (Nat.le_refl 576)
  have h4 := Nat.mul_le_mul (ar_le H hf) (Nat.le_refl 150)
  omega
theorem NR_get {f : Nat} (hf : f < s.funs.length) : (NR s).getD f [] = [.rs 3 (tmCs (preT_ (s.funs.getD f default).body))] := by
  simp [NR, List.getD_eq_getElem?_getD, hf]
theorem HR_get {f : Nat} (hf : f < s.funs.length) : (HR s l).getD f [] = [.os (l (.cs f)) (nN s f)] := by
  simp [HR, List.getD_eq_getElem?_getD, hf]
theorem CR_get {f : Nat} (hf : f < s.funs.length) : (CR s l).getD f [] = [.os (l (.tmp f)) (ar s f)] := by
  simp [CR, List.getD_eq_getElem?_getD, hf]
theorem NR_len : (NR s).length = s.funs.length := by simp [NR]
theorem HR_len : (HR s l).length = s.funs.length := by simp [HR]
theorem CR_len : (CR s l).length = s.funs.length := by simp [CR]
theorem rdK {P n : Nat} {cs : List AV} {x : AV} {K : AV → AV → Prop} (ha : h P = some (.arr 5 [cs])) (hn : n < 5) (hx : g cs n = x) (hk : K (.op P 0 n) x) : nilA (.op P 0 0) <| fldA n (.op P 0 0) fun p => loadV p h fun x => K p x := by
  rw [w_nil_op, w_fld_op, Nat.zero_add]
  exact ld ha hn hx hk
theorem pre_lab {p : Pc} (hp : okP s p) : (tmCs (preT_ (s.funs.getD p.1 default).body)).getD p.2 [] = tmC (ndS s p).1 := by
  have hlt : p.2 < (preT_ (s.funs.getD p.1 default).body).length := by rw [pre_len]; exact hp.2
  rw [tmCs_get hlt]
  have := pre_get hp
  rw [List.getElem?_eq_getElem hlt] at this
  simpa using congrArg tmC (Option.some.inj this)
theorem rd_srt' {f : Nat} (hf : f < s.funs.length) {K : AV → Prop} (hk : K (.rs 1 (srCs (srtOf s f).kids))) :
    idxA 5 (.rs 5 (fnCs s.funs)) (I (f : Nat)) h fun p => fldA 1 p fun q => fldA 0 q fun r => loadV r h K := by
  refine ix_rs (by rw [fnCs_len]; exact hf) (fn_get hf) ?_
  rw [fnC, w_fld_ro, List.drop_succ_cons, List.drop_zero, w_fld_ro, List.drop_zero, w_loadV_ro, srC_eq]
  exact hk
theorem rd_hd {P : Nat} (R : RC hb (conK s σ l) l h) (hP : l .pa = P) {f : Nat} (hf : f < s.funs.length) {K : AV → AV → AV → AV → Prop}
    (hk : K (.op P 0 3) (.rs 1 (HR s l)) (.ro [.os (l (.cs f)) (nN s f)]) (.os (l (.cs f)) (nN s f))) : nilA (.op P 0 0) <| fldA 3 (.op P 0 0) fun a => loadV a h fun b => idxA 1 b (I (f : Nat)) h fun c => loadV c h fun d => K a b c d := by
  have xa : h P = some (.arr 5 [[.rs 2 (syCs s.syms), .rs 5 (fnCs s.funs), .rs 1 (NR s), .rs 1 (HR s l), .rs 1 (CR s l)]]) := by rw [← hP]; exact R.own .pa _ rfl
  refine rdK xa (by omega) rfl ?_
  refine ix_rs (by rw [HR_len]; exact hf) (HR_get hf) ?_
  rw [w_loadV_ro]; exact hk
theorem rd_cmK {P : Nat} (R : RC hb (conK s σ l) l h) (hP : l .pa = P) {f : Nat} (hf : f < s.funs.length) {K : AV → AV → AV → AV → Prop}
    (hk : K (.op P 0 4) (.rs 1 (CR s l)) (.ro [.os (l (.tmp f)) (ar s f)]) (.os (l (.tmp f)) (ar s f))) : nilA (.op P 0 0) <| fldA 4 (.op P 0 0) fun a => loadV a h fun b => idxA 1 b (I (f : Nat)) h fun c => loadV c h fun d => K a b c d := by
  have xa : h P = some (.arr 5 [[.rs 2 (syCs s.syms), .rs 5 (fnCs s.funs), .rs 1 (NR s), .rs 1 (HR s l), .rs 1 (CR s l)]]) := by rw [← hP]; exact R.own .pa _ rfl
  refine rdK xa (by omega) rfl ?_
  refine ix_rs (by rw [CR_len]; exact hf) (CR_get hf) ?_
  rw [w_loadV_ro]; exact hk
theorem ix_hd (R : RC hb (conK s σ l) l h) {p : Pc} (hp : okP s p) {K : AV → Prop} (hk : K (.op (l (.cs p.1)) p.2 0)) : idxA 1 (.os (l (.cs p.1)) (nN s p.1)) (I (p.2 : Nat)) h K := by
  have xr : h (l (.cs p.1)) = some (.arr 1 ((List.range (nN s p.1)).map fun i => [hV σ l (p.1, i)])) := R.own (.cs p.1) _ (by simp only [conK, hp.1, if_true])
  rw [w_idx_os xr]
  exact ⟨rfl, by omega, by have : p.2 < nN s p.1 := hp.2; omega, by simp, by rw [Int.toNat_natCast]; exact hk⟩
theorem ld_hd (R : RC hb (conK s σ l) l h) {p : Pc} (hp : okP s p) {K : AV → Prop} (hk : K (hV σ l p)) : loadV (.op (l (.cs p.1)) p.2 0) h K := by
  have xr : h (l (.cs p.1)) = some (.arr 1 ((List.range (nN s p.1)).map fun i => [hV σ l (p.1, i)])) := R.own (.cs p.1) _ (by simp only [conK, hp.1, if_true])
  have h2 : p.2 < nN s p.1 := hp.2
  rw [w_loadV_op xr]
  refine ⟨by simpa using h2, by omega, ?_⟩
  simpa [List.getD_eq_getElem?_getD, h2] using hk
theorem ix_cm (R : RC hb (conK s σ l) l h) {k : Pc} (hk : okK s k) {K : AV → Prop} (hq : K (.op (l (.tmp k.1)) k.2 0)) : idxA 1 (.os (l (.tmp k.1)) (ar s k.1)) (I (k.2 : Nat)) h K := by
  have xr : h (l (.tmp k.1)) = some (.arr 1 ((List.range (ar s k.1)).map fun i => [.rs 2 ((σ.cm (k.1, i)).map plC)])) := R.own (.tmp k.1) _ (by simp only [conK, hk.1, if_true])
  rw [w_idx_os xr]
  exact ⟨rfl, by omega, by have : k.2 < ar s k.1 := hk.2; omega, by simp, by rw [Int.toNat_natCast]; exact hq⟩
theorem ld_cm (R : RC hb (conK s σ l) l h) {k : Pc} (hk : okK s k) {K : AV → Prop} (hq : K (.rs 2 ((σ.cm k).map plC))) : loadV (.op (l (.tmp k.1)) k.2 0) h K := by
  have xr : h (l (.tmp k.1)) = some (.arr 1 ((List.range (ar s k.1)).map fun i => [.rs 2 ((σ.cm (k.1, i)).map plC)])) := R.own (.tmp k.1) _ (by simp only [conK, hk.1, if_true])
  have h2 : k.2 < ar s k.1 := hk.2
  rw [w_loadV_op xr]
  refine ⟨by simpa using h2, by omega, ?_⟩
  simpa [List.getD_eq_getElem?_getD, h2] using hq
theorem len_hV {p : Pc} {K : AV → Prop} (hk : K (I ((σ.hd p).length : Nat))) : lenA (hV σ l p) K := by
  unfold hV
  by_cases e : σ.hd p = []
  · rw [if_pos e]; rw [e] at hk; exact hk
  · rw [if_neg e]; exact hk
theorem vref19_size_c (H : SOk s) (Sm : Small s) (I0 : KInv s R σ) (Rc : RC hb (conK s σ l) l h) {Q : AV → Heap → Prop} (hq : Q (I (szK s σ : Nat)) h) : ACalls prog n_vref19_state_size [.op (l .pa) 0 0] h Q := by
  have hfew := H.few
  have hbig := szK_le H Sm I0
  refine vref19_state_size_call ?_
  unfold vref19_state_size
  have xa : h (l .pa) = some (.arr 5 [[.rs 2 (syCs s.syms), .rs 5 (fnCs s.funs), .rs 1 (NR s), .rs 1 (HR s l), .rs 1 (CR s l)]]) := Rc.own .pa _ rfl
  refine rdK xa (by omega) rfl ?_
  simp only [g_s, g_0, w_len_rs, NR_len]
  have hpart : ∀ f, f ≤ s.funs.length → sumN f (fun f => szH s σ f + szC s σ f) ≤ f * (400 * 576 + 8 * 150) := fun f hf => sumN_le fun i hi => by
    have h1 : szH s σ i ≤ nN s i * 576 := sumN_le fun j _ => I0.hd_le H _
    have h2 : szC s σ i ≤ ar s i * 150 := sumN_le fun j _ => I0.cm_le H Sm _
    have h3 := Nat.mul_le_mul (nN_le H (f := i) (by omega)) (Nat.le_refl 576)
    have h4 := Nat.mul_le_mul (ar_le H (f := i) (by omega)) (Nat.le_refl 150)
    omega
  refine loop_up s.funs.length (fun f σ' h' => σ' = [I (sumN f fun f => szH s σ f + szC s σ f), I f] ∧ h' = h) ⟨rfl, rfl⟩ (fun k σ' h' ⟨e, _⟩ => by rw [e]; rfl) ?_
  rintro f σ' h' K hf ⟨rfl, rfl⟩ hK
  simp only [g_0, g_1]
  by_cases hlt : f < s.funs.length
  · have hlt' : (f : Int) < s.funs.length := by omega
    have hn4 := nN_le H hlt
    have ha8 := ar_le H hlt
    have hp0 := hpart f hf
    have hp1 : f * (400 * 576 + 8 * 150) ≤ 64 * (400 * 576 + 8 * 150) := Nat.mul_le_mul (by omega) (Nat.le_refl _)
    simp only [w_lss, hlt', decide_true, w_brA, if_true]
    refine rd_hd Rc rfl hlt ?_
    rw [w_len_os]
    refine loop_up (nN s f) (fun i σ' h2 => σ' = [I (sumN f (fun f => szH s σ f + szC s σ f) + sumN i (fun i => (σ.hd (f, i)).length) : Nat), I i] ∧ h2 = h') ⟨by simp [sumN], rfl⟩ (fun k σ' h' ⟨e, _⟩ => by rw [e]; rfl) ?_
    rintro i σ' h2 K2 hi ⟨rfl, rfl⟩ hK2
    simp only [g_0, g_1]
    have hb1 : sumN i (fun i => (σ.hd (f, i)).length) ≤ i * 576 := sumN_le fun j _ => I0.hd_le H _
    have hb2 : i * 576 ≤ 400 * 576 := Nat.mul_le_mul (by omega) (Nat.le_refl _)
    by_cases hlt2 : i < nN s f
    · have hlt2' : (i : Int) < (nN s f : Nat) := by omega
      simp only [w_lss, hlt2', decide_true, w_brA, if_true]
      have hp : okP s (f, i) := ⟨hlt, hlt2⟩
      refine ix_hd (p := (f, i)) Rc hp (ld_hd (p := (f, i)) Rc hp (len_hV ?_))
      have := I0.hd_le H (f, i)
      rw [w_add, w_add, wrap_k (k := i) (by omega), wrap_i64 (by omega) (by omega)]
      refine hK2 hlt2 _ _ ⟨?_, rfl⟩
      rw [sumN_succ]
      simp only [List.cons.injEq, AV.val.injEq, Value.int.injEq, true_and, and_true]
      omega
    · have hie : i = nN s f := by omega
      subst hie
      simp only [w_lss, Int.lt_irrefl, decide_false, w_brA, Bool.false_eq_true, if_false]
      refine rd_cmK Rc rfl hlt ?_
      rw [w_len_os]
      have hsH : sumN (nN s f) (fun i => (σ.hd (f, i)).length) = szH s σ f := rfl
      rw [hsH] at hb1 ⊢
      refine loop_up (ar s f) (fun i σ' h3 => σ' = [I (sumN f (fun f => szH s σ f + szC s σ f) + szH s σ f + sumN i (fun i => (σ.cm (f, i)).length) : Nat), I i] ∧ h3 = h2) ⟨by simp [sumN], rfl⟩ (fun k σ' h' ⟨e, _⟩ => by rw [e]; rfl) ?_
      rintro i σ' h3 K3 hi3 ⟨rfl, rfl⟩ hK3
      simp only [g_0, g_1]
      have hb3 : sumN i (fun i => (σ.cm (f, i)).length) ≤ i * 150 := sumN_le fun j _ => I0.cm_le H Sm _
      have hb4 : i * 150 ≤ 8 * 150 := Nat.mul_le_mul (by omega) (Nat.le_refl _)
      by_cases hlt3 : i < ar s f
      · have hlt3' : (i : Int) < (ar s f : Nat) := by omega
        simp only [w_lss, hlt3', decide_true, w_brA, if_true]
        have hk : okK s (f, i) := ⟨hlt, hlt3⟩
        refine ix_cm (k := (f, i)) Rc hk (ld_cm (k := (f, i)) Rc hk ?_)
        have := I0.cm_le H Sm (f, i)
        rw [w_len_rs, List.length_map, w_add, w_add, wrap_k (k := i) (by omega), wrap_i64 (by omega) (by omega)]
        refine hK3 hlt3 _ _ ⟨?_, rfl⟩
        rw [sumN_succ]
        simp only [List.cons.injEq, AV.val.injEq, Value.int.injEq, true_and, and_true]
        omega
      · have hie : i = ar s f := by omega
        subst hie
        simp only [w_lss, Int.lt_irrefl, decide_false, w_brA, Bool.false_eq_true, if_false]
        rw [w_add, wrap_k (k := f) (by omega)]
        refine hK hlt _ _ ⟨?_, rfl⟩
        rw [sumN_succ]
        have hsC : sumN (ar s f) (fun i => (σ.cm (f, i)).length) = szC s σ f := rfl
        rw [hsC]
        simp only [List.cons.injEq, AV.val.injEq, Value.int.injEq, true_and, and_true]
        omega
  · have hfe : f = s.funs.length := by omega
    subst hfe
    simp only [w_lss, Int.lt_irrefl, decide_false, w_brA, Bool.false_eq_true, if_false]
    exact retA_of hq
end
end Am
