/- J4: joined of Un, Uo, Up, Uq, Ur, Uh, Ui, Uj, Ul, Um, Us, Ut, Uu. -/
import Derived.Test.YtoifckjdnldlpaaJ3
import Derived.Test.YtoifckjdnldlpaaJ2
import Derived.Test.YtoifckjdnldlpaaFU
/- trim.visit, idle. -/
set_option linter.unusedVariables false
set_option linter.unusedSimpArgs false
namespace Am
open Go Go.Proofs.Try
section
variable {T : Type}
/-- A function value that is told each term, with the function it is in. -/
structure Sayer (F : Nat) (caps : List AV) (C : List Nat) (R : T → Heap → Prop) (say : T → Nat → Tm → T) (n : Nat) : Prop where
  call : ∀ (s : T) (g : Nat) (a : Int × Int) (us : List Tm) (h : Heap) (Q : AV → Heap → Prop), R s h → g < n → us.length ≤ 1000000000 →
    (∀ h', R (say s g (.mk a us)) h' → (∀ j, ¬ j ∈ C → h' j = h j) → Q (.tup []) h') → ACalls prog F ([I g, tm (.mk a us)] ++ caps) h Q
  live : ∀ s h, R s h → ∀ j, j ∈ C → ∃ n, h j = some n
  loc : ∀ s h h', R s h → (∀ j, j ∈ C → h' j = h j) → R s h'
def visT (say : T → Nat → Tm → T) (g : Nat) (s : T) (t : Tm) : T := (chg (fun s t => (t, say s g t)) s t).2
theorem chg_id (say : T → Nat → Tm → T) (g : Nat) (t : Tm) : ∀ s, (chg (fun s t => (t, say s g t)) s t).1 = t := by
  refine Rt.ind (P := fun t => ∀ s, (chg (fun s t => (t, say s g t)) s t).1 = t) (fun a us ih => ?_) t
  intro s
  have : ∀ (l : List Tm), (∀ t, t ∈ l → ∀ s, (chg (fun s t => (t, say s g t)) s t).1 = t) → ∀ s, (chgL (fun s t => (t, say s g t)) s l).1 = l := fun l => by
    induction l with
    | nil => intro _ s; rfl
    | cons t l ihl => intro h s; simp only [chgL]; rw [h t (by simp), ihl fun t ht => h t (by simp [ht])]
  rw [chg]
  simp only
  rw [this us ih]
def visS (say : T → Nat → Tm → T) (l : List Fn) (s : T) (k : Nat) : T := Nat.rec s (fun g r => visT say g r (l.getD g default).body) k
theorem visit_turner {F : Nat} {caps : List AV} {C : List Nat} {R : T → Heap → Prop} {say : T → Nat → Tm → T} {n : Nat} (Y : Sayer F caps C R say n) {g p1 p2 : Nat} (hg : g < n) (h1 : ¬ p1 ∈ C) (h2 : ¬ p2 ∈ C) :
    Turner 224 [.op p1 0 0, .op p2 0 0] (p1 :: p2 :: C) (fun s h => R s h ∧ h p1 = some (.arr 1 [[.fn F caps]]) ∧ h p2 = some (.arr 1 [[I g]])) (fun _ _ => True) (fun s t => (t, say s g t)) where
  call s a us h Q hR _ hl hq := by
    obtain ⟨r, c1, c2⟩ := hR
    refine trim_visit_1_call ?_
    unfold trim_visit_1 tm
    simp [tmC]
    rw [w_loadV_op c1]
    refine ⟨by simp, by omega, ?_⟩
    rw [w_loadV_op c2]
    refine ⟨by simp, by omega, ?_⟩
    simp only [List.getD_cons_zero, g_0, w_callV]
    refine callS_of ?_
    rw [show (.agg [I a.1, I a.2, .rs 3 (tmCs us)] : AV) = tm (.mk a us) from rfl]
    refine Y.call s g a us h _ r hg hl fun h' r' hf => ?_
    refine retA_of (hq h' ⟨r', by rw [hf p1 h1]; exact c1, by rw [hf p2 h2]; exact c2⟩ fun j hj => hf j fun e => hj (by simp [e]))
  live s h hR j hj := by
    simp only [List.mem_cons] at hj
    rcases hj with rfl | rfl | hj
    · exact ⟨_, hR.2.1⟩
    · exact ⟨_, hR.2.2⟩
    · exact Y.live s h hR.1 j hj
  loc s h h' hR he := ⟨Y.loc s h h' hR.1 fun j hj => he j (by simp [hj]), by rw [he p1 (by simp)]; exact hR.2.1, by rw [he p2 (by simp)]; exact hR.2.2⟩
theorem trim_visit_c {F : Nat} {caps : List AV} {C : List Nat} {R : T → Heap → Prop} {say : T → Nat → Tm → T} (s : Sch) (H : SOk s) (Y : Sayer F caps C R say s.funs.length) {st : T} {hb h : Heap} {c : Nat} (hs : ScO hb h c s) (hr : R st h) (hcC : ¬ c ∈ C) (hdC : ∀ d, h d = some (.arr 5 (fnCs s.funs)) → ¬ d ∈ C) (hbC : ∀ j, j ∈ C → hb j = none)
    {Q : AV → Heap → Prop} (hq : ∀ h', ScO hb h' c s → R (visS say s.funs st s.funs.length) h' → Q (.tup []) h') : ACalls prog n_trim_visit [.op c 0 0, .fn F caps] h Q := by
  have hfw := H.few
  obtain ⟨d, hc, hd, hcd, bc, bd, hfr⟩ := hs
  have hdd := hdC d hd
  refine trim_visit_call ?_
  unfold trim_visit
  simp only [w_one_fn]
  intro p1 hp1
  have n1C : ¬ p1 ∈ C := fun e => by obtain ⟨n, hn⟩ := Y.live st h hr p1 e; rw [hp1] at hn; cases hn
  have n1c : p1 ≠ c := fun e => by subst e; rw [hp1] at hc; cases hc
  have n1d : p1 ≠ d := fun e => by subst e; rw [hp1] at hd; cases hd
  simp only [w_nil_op, w_fld_op]
  rw [w_loadV_op (by rw [Heap.set_ne n1c.symm]; exact hc)]
  refine ⟨by simp, by omega, ?_⟩
  simp only [List.getD_cons_zero, Nat.zero_add, g_0, g_1, w_len_os]
  refine loop_up s.funs.length (fun k σ h' => σ = [I k] ∧ R (visS say s.funs st k) h' ∧ h' p1 = some (.arr 1 [[.fn F caps]]) ∧ h' c = some (.arr 2 [[.rs 2 (syCs s.syms), .os d s.funs.length]]) ∧ h' d = some (.arr 5 (fnCs s.funs)) ∧ ∀ j n, hb j = some n → h' j = some n) ⟨rfl, ?_, Heap.set_same _ _ _, by rw [Heap.set_ne n1c.symm]; exact hc, by rw [Heap.set_ne n1d.symm]; exact hd, fun j n hj => ?_⟩ (fun k σ' h' ⟨e, _⟩ => by rw [e]; rfl) ?_
  · exact Y.loc _ _ _ hr fun j hj => Heap.set_ne fun e => n1C (e ▸ hj)
  · rw [Heap.set_ne]; exact hfr j n hj
    rintro rfl; have := hfr j n hj; rw [hp1] at this; cases this
  rintro k σ' h1 K hk ⟨rfl, hR, e1, ec, ed, efr⟩ hK
  by_cases hlt : k < s.funs.length
  · have hlt' : (k : Int) < s.funs.length := by omega
    have hfm := List.getElem_mem hlt
    have bk := H.body hfm
    have dlen : (fnCs s.funs).length = s.funs.length := fnCs_len _
    simp only [g_0, w_lss, hlt', decide_true, w_brA, if_true]
    intro p2 hp2
    simp only [w_one_v]
    rw [w_store (Heap.set_same _ p2 _)]
    refine ⟨by simp, by simp, ?_⟩
    rw [Heap.set_set]
    have hset : ([[I 0]] : List (List AV)).set 0 (splice (([[I 0]] : List (List AV)).getD 0 []) 0 [I k]) = [[I k]] := rfl
    rw [hset]
    have n2C : ¬ p2 ∈ C := fun e => by obtain ⟨n, hn⟩ := Y.live _ h1 hR p2 e; rw [hp2] at hn; cases hn
    have n2c : p2 ≠ c := fun e => by subst e; rw [hp2] at ec; cases ec
    have n2d : p2 ≠ d := fun e => by subst e; rw [hp2] at ed; cases ed
    have n21 : p2 ≠ p1 := fun e => by subst e; rw [hp2] at e1; cases e1
    have ec2 : (h1.set p2 (.arr 1 [[I k]])) c = some (.arr 2 [[.rs 2 (syCs s.syms), .os d s.funs.length]]) := by rw [Heap.set_ne n2c.symm]; exact ec
    have ed2 : (h1.set p2 (.arr 1 [[I k]])) d = some (.arr 5 (fnCs s.funs)) := by rw [Heap.set_ne n2d.symm]; exact ed
    rw [w_loadV_op ec2]
    refine ⟨by simp, by omega, ?_⟩
    simp only [List.getD_cons_zero, g_0, g_1]
    rw [w_loadV_op (Heap.set_same _ p2 _)]
    refine ⟨by simp, by omega, ?_⟩
    simp only [List.getD_cons_zero, g_0]
    rw [w_idx_os ed2]
    refine ⟨rfl, by omega, hlt', by rw [dlen]; exact Nat.le_refl _, ?_⟩
    simp only [w_fld_op, Int.toNat_natCast, Nat.zero_add]
    rw [w_loadG_op ed2, fnCs_get hlt]
    refine ⟨by rw [dlen]; exact hlt, by omega, ?_⟩
    simp only [fnC, List.drop_succ_cons, List.drop_zero, g_0, g_1, g_2]
    refine callS_of ?_
    rw [tm_eta]
    have hR2 : R (visS say s.funs st k) (h1.set p2 (.arr 1 [[I k]])) := Y.loc _ _ _ hR fun j hj => Heap.set_ne fun e => n2C (e ▸ hj)
    refine trim_changed_c (visit_turner Y (g := k) hlt n1C n2C) s.funs[k].body (s := visS say s.funs st k) ⟨hR2, by rw [Heap.set_ne n21.symm]; exact e1, Heap.set_same _ _ _⟩ (allT_true _) (by omega) fun h3 r3 f3 => ?_
    obtain ⟨q1, q2, q3⟩ := r3
    rw [w_add, wrap_k (k := k) (by omega)]
    have eg : s.funs.getD k default = s.funs[k] := getD_fn hlt
    refine hK hlt _ _ ⟨rfl, ?_, q2, ?_, ?_, fun j n hj => ?_⟩
    · show R (visT say k (visS say s.funs st k) (s.funs.getD k default).body) h3
      rw [eg]; exact q1
    · rw [f3 c (by simp [n1c.symm, n2c.symm, hcC])]; exact ec2
    · rw [f3 d (by simp [n1d.symm, n2d.symm, hdd])]; exact ed2
    · have hj1 := efr j n hj
      have a1 : j ≠ p1 := fun e => by subst e; have := hfr j n hj; rw [hp1] at this; cases this
      have a2 : j ≠ p2 := fun e => by subst e; rw [hp2] at hj1; cases hj1
      have a3 : ¬ j ∈ C := fun e => by rw [hbC j e] at hj; cases hj
      rw [f3 j (by simp [a1, a2, a3]), Heap.set_ne a2]; exact hj1
  · have hkn : k = s.funs.length := by omega
    subst hkn
    simp only [g_0, w_lss, Int.lt_irrefl, decide_false, w_brA, Bool.false_eq_true, if_false]
    exact retA_of (hq h1 ⟨d, ec, ed, hcd, bc, bd, efr⟩ hR)
end
end Am
/- trim.idle, take, drop. -/
set_option linter.unusedVariables false
set_option linter.unusedSimpArgs false
namespace Am
open Go Go.Proofs.Try
def nodeOk (f i g : Nat) : Tm → Bool
  | .mk a us => !(decide (g = f) && decide (a.1 = 0) && decide (a.2 = i)) && !(decide (a.1 = 1) && decide (a.2 = f) && decide (us.length ≤ i))
def sayI (f i : Nat) (b : Bool) (g : Nat) (t : Tm) : Bool := b && nodeOk f i g t
theorem visT_idle (f i g : Nat) (t : Tm) : ∀ b, visT (sayI f i) g b t = (b && idleT f i (decide (g = f)) t) := by
  refine Rt.ind (P := fun t => ∀ b, visT (sayI f i) g b t = (b && idleT f i (decide (g = f)) t)) (fun a us ih => ?_) t
  intro b
  have hL : ∀ (l : List Tm), (∀ t, t ∈ l → ∀ b, visT (sayI f i) g b t = (b && idleT f i (decide (g = f)) t)) → ∀ b, (chgL (fun s t => (t, sayI f i s g t)) b l).2 = (b && idleTL f i (decide (g = f)) l) := fun l => by
    induction l with
    | nil => intro _ b; simp [chgL, idleTL]
    | cons t l ihl =>
      intro h b
      have h1 := h t (by simp) b
      unfold visT at h1
      simp only [chgL, idleTL, h1, ihl (fun t ht => h t (by simp [ht])), Bool.and_assoc]
  have hK : ∀ b, (chgL (fun s t => (t, sayI f i s g t)) b us).1.length = us.length := fun b => chgL_len _ us b
  have e1 : ∀ vs : List Tm, vs.length = us.length → nodeOk f i g (.mk a vs) = nodeOk f i g (.mk a us) := fun vs h => by simp only [nodeOk, h]
  unfold visT
  rw [chg]
  show ((chgL (fun s t => (t, sayI f i s g t)) b us).2 && nodeOk f i g (.mk a (chgL (fun s t => (t, sayI f i s g t)) b us).1)) = _
  rw [hL us ih b, e1 _ (hK b)]
  simp only [nodeOk, idleT]
  cases b <;> simp
  cases idleTL f i (decide (g = f)) us <;> simp
def idleAll (s : Sch) (f i : Nat) : Prop := ∀ g, g < s.funs.length → idleT f i (decide (g = f)) (s.funs.getD g default).body = true
theorem visS_idle (s : Sch) (f i : Nat) : ∀ k, visS (sayI f i) s.funs true k = true ↔ ∀ g, g < k → idleT f i (decide (g = f)) (s.funs.getD g default).body = true := by
  intro k
  induction k with
  | zero => exact ⟨fun _ g h => by omega, fun _ => rfl⟩
  | succ k ih =>
    have e : visS (sayI f i) s.funs true (k + 1) = visT (sayI f i) k (visS (sayI f i) s.funs true k) (s.funs.getD k default).body := rfl
    rw [e, visT_idle, Bool.and_eq_true, ih]
    constructor
    · rintro ⟨h1, h2⟩ g hg
      by_cases e : g = k
      · subst e; exact h2
      · exact h1 g (by omega)
    · exact fun h => ⟨fun g hg => h g (by omega), h k (by omega)⟩
theorem idle_1_sayer (p1 p3 p5 f i n : Nat) (h15 : p1 ≠ p5) (h35 : p3 ≠ p5) : Sayer 201 [.op p1 0 0, .op p3 0 0, .op p5 0 0] [p1, p3, p5] (fun (b : Bool) h => h p1 = some (.arr 1 [[I f]]) ∧ h p3 = some (.arr 1 [[I i]]) ∧ h p5 = some (.arr 1 [[B b]])) (sayI f i) n where
  call b g a us h Q hR hg hl hq := by
    obtain ⟨c1, c3, c5⟩ := hR
    have L1 : ∀ k : AV → Prop, k (I f) → loadV (.op p1 0 0) h k := fun k hk => by rw [w_loadV_op c1]; exact ⟨by simp, by omega, hk⟩
    have L3 : ∀ k : AV → Prop, k (I i) → loadV (.op p3 0 0) h k := fun k hk => by rw [w_loadV_op c3]; exact ⟨by simp, by omega, hk⟩
    have keep : nodeOk f i g (.mk a us) = true → retA (.tup []) h Q := fun e => by
      refine retA_of (hq h ⟨c1, c3, ?_⟩ fun _ _ => rfl)
      unfold sayI; rw [e, Bool.and_true]; exact c5
    have put : nodeOk f i g (.mk a us) = false → storeG (.op p5 0 0) [(B false)] h (fun h_7 => retA (.tup []) h_7 Q) := fun e => by
      rw [w_store c5]
      refine ⟨by simp, by simp, ?_⟩
      have hset : ([[B b]] : List (List AV)).set 0 (splice (([[B b]] : List (List AV)).getD 0 []) 0 [B false]) = [[B false]] := rfl
      rw [hset]
      refine retA_of (hq _ ⟨by rw [Heap.set_ne h15]; exact c1, by rw [Heap.set_ne h35]; exact c3, ?_⟩ fun j hj => Heap.set_ne fun e => hj (by simp [e]))
      unfold sayI; rw [e, Bool.and_false]; exact Heap.set_same _ _ _
    have nk : nodeOk f i g (.mk a us) = (!(decide (g = f) && decide (a.1 = 0) && decide (a.2 = i)) && !(decide (a.1 = 1) && decide (a.2 = f) && decide (us.length ≤ i))) := rfl
    rw [nk] at keep put
    have second : (a.1 = 1 → a.2 = f → us.length ≤ i → storeG (.op p5 0 0) [(B false)] h (fun h_7 => retA (.tup []) h_7 Q)) → (¬ (a.1 = 1 ∧ a.2 = f ∧ us.length ≤ i) → retA (.tup []) h Q) →
        (binA .eql (I a.1) (I 1) fun x_8 =>
         brA x_8 (loadV (.op p1 0 0) h fun x_9 =>
         binA .eql (I a.2) x_9 fun x_10 =>
         brA x_10 (lenA (.rs 3 (tmCs us)) fun x_11 =>
         loadV (.op p3 0 0) h fun x_12 =>
         binA .leq x_11 x_12 fun x_13 =>
         brA x_13 (storeG (.op p5 0 0) [(B false)] h fun h_14 =>
         retA (.tup []) h_14 Q) (retA (.tup []) h Q)) (retA (.tup []) h Q)) (retA (.tup []) h Q)) := by
      intro hp hk
      rw [w_eql, w_brA]
      by_cases k1 : a.1 = 1
      · simp only [k1, decide_true, if_true]
        refine L1 _ ?_
        rw [w_eql, w_brA]
        by_cases k2 : a.2 = f
        · simp only [k2, decide_true, if_true, w_len_rs]
          refine L3 _ ?_
          rw [w_leq, w_brA]
          by_cases k3 : us.length ≤ i
          · rw [if_pos (by simp; omega)]; exact hp k1 k2 k3
          · rw [if_neg (by simp; omega)]; exact hk fun h => k3 h.2.2
        · simp only [k2, decide_false, Bool.false_eq_true, if_false]; exact hk fun h => k2 h.2.1
      · simp only [k1, decide_false, Bool.false_eq_true, if_false]; exact hk fun h => k1 h.1
    refine trim_idle_1_call ?_
    unfold trim_idle_1 tm
    simp only [tmC, w_agg, List.length_cons, List.length_nil, true_and, g_0, g_1, g_2]
    have sec : ¬ (g = f ∧ a.1 = 0 ∧ a.2 = i) → _ := fun hn => second (fun k1 k2 k3 => put (by simp [k1, k2, k3])) (fun hk => keep (by
      have e1 : (decide (g = f) && decide (a.1 = 0) && decide (a.2 = i)) = false := by
        cases hh : (decide (g = f) && decide (a.1 = 0) && decide (a.2 = i)) with
        | false => rfl
        | true => simp only [Bool.and_eq_true, decide_eq_true_eq] at hh; exact absurd ⟨hh.1.1, hh.1.2, hh.2⟩ hn
      have e2 : (decide (a.1 = 1) && decide (a.2 = f) && decide (us.length ≤ i)) = false := by
        cases hh : (decide (a.1 = 1) && decide (a.2 = f) && decide (us.length ≤ i)) with
        | false => rfl
        | true => simp only [Bool.and_eq_true, decide_eq_true_eq] at hh; exact absurd ⟨hh.1.1, hh.1.2, hh.2⟩ hk
      rw [e1, e2]; rfl))
    rw [w_eql, w_brA]
    by_cases k0 : a.1 = 0
    · rw [if_pos (by simp [k0])]
      refine L1 _ ?_
      rw [w_eql, w_brA]
      by_cases kg : g = f
      · rw [if_pos (by simp [kg])]
        refine L3 _ ?_
        rw [w_eql, w_brA]
        by_cases ki : a.2 = i
        · rw [if_pos (by simp [ki]), w_brA, if_pos (by simp [ki])]
          exact put (by simp [kg, k0, ki])
        · rw [if_neg (by simp [ki])]
          exact sec fun h => ki h.2.2
      · rw [if_neg (by simp; omega)]
        exact sec fun h => kg h.1
    · rw [if_neg (by simp [k0])]
      exact sec fun h => k0 h.2.1
  live b h hR j hj := by
    simp only [List.mem_cons, List.not_mem_nil, or_false] at hj
    rcases hj with rfl | rfl | rfl
    · exact ⟨_, hR.1⟩
    · exact ⟨_, hR.2.1⟩
    · exact ⟨_, hR.2.2⟩
  loc b h h' hR he := ⟨by rw [he p1 (by simp)]; exact hR.1, by rw [he p3 (by simp)]; exact hR.2.1, by rw [he p5 (by simp)]; exact hR.2.2⟩
theorem trim_idle_c (s : Sch) (H : SOk s) {f i : Nat} {hb h : Heap} {c : Nat} (hs : ScO hb h c s) {Q : AV → Heap → Prop} (hq : ∀ b, (b = true ↔ idleAll s f i) → ∀ h', ScO hb h' c s → Q (B b) h') : ACalls prog n_trim_idle [.op c 0 0, I f, I i] h Q := by
  refine trim_idle_call ?_
  unfold trim_idle
  simp only [w_one_v]
  intro p1 hp1
  intro p3 hp3
  intro p5 hp5
  have n31 : p3 ≠ p1 := fun e => by subst e; rw [Heap.set_same] at hp3; cases hp3
  have n53 : p5 ≠ p3 := fun e => by subst e; rw [Heap.set_same] at hp5; cases hp5
  have n51 : p5 ≠ p1 := fun e => by subst e; rw [Heap.set_ne n53, Heap.set_same] at hp5; cases hp5
  rw [w_store (Heap.set_same _ p5 _)]
  refine ⟨by simp, by simp, ?_⟩
  rw [Heap.set_set]
  have hset : ([[B false]] : List (List AV)).set 0 (splice (([[B false]] : List (List AV)).getD 0 []) 0 [B true]) = [[B true]] := rfl
  rw [hset]
  have f3 : h p3 = none := by rw [Heap.set_ne n31] at hp3; exact hp3
  have f5 : h p5 = none := by rw [Heap.set_ne n53, Heap.set_ne n51] at hp5; exact hp5
  have hs3 := ((hs.set hp1 (.arr 1 [[I f]])).set hp3 (.arr 1 [[I i]])).set hp5 (.arr 1 [[B true]])
  have hnone : ∀ j, h j = none → hb j = none := fun j hj => by
    obtain ⟨d, _, _, _, _, _, hfr⟩ := hs
    cases e : hb j with
    | none => rfl
    | some n => have := hfr j n e; rw [hj] at this; cases this
  obtain ⟨d0, a1, a2, _⟩ := hs
  refine callS_of (trim_visit_c s H (idle_1_sayer p1 p3 p5 f i s.funs.length n51.symm n53.symm) hs3 (st := true) ⟨?_, ?_, Heap.set_same _ _ _⟩ ?_ (fun d hd => ?_) (fun j hj => ?_) fun h' hs' hr' => ?_)
  · rw [Heap.set_ne n51.symm, Heap.set_ne n31.symm, Heap.set_same]
  · rw [Heap.set_ne n53.symm, Heap.set_same]
  · simp only [List.mem_cons, List.not_mem_nil, or_false, not_or]
    refine ⟨?_, ?_, ?_⟩
    · rintro rfl; rw [hp1] at a1; cases a1
    · rintro rfl; rw [f3] at a1; cases a1
    · rintro rfl; rw [f5] at a1; cases a1
  · simp only [List.mem_cons, List.not_mem_nil, or_false, not_or]
    refine ⟨?_, ?_, ?_⟩
    · rintro rfl; rw [Heap.set_ne n51.symm, Heap.set_ne n31.symm, Heap.set_same] at hd; cases hd
    · rintro rfl; rw [Heap.set_ne n53.symm, Heap.set_same] at hd; cases hd
    · rintro rfl; rw [Heap.set_same] at hd; cases hd
  · simp only [List.mem_cons, List.not_mem_nil, or_false] at hj
    rcases hj with rfl | rfl | rfl
    · exact hnone _ hp1
    · exact hnone _ f3
    · exact hnone _ f5
  rw [w_loadV_op hr'.2.2]
  refine ⟨by simp, by omega, ?_⟩
  simp only [List.getD_cons_zero, g_0]
  exact retA_of (hq _ (visS_idle s f i s.funs.length) h' hs')
end Am
/- trim.take. -/
set_option linter.unusedVariables false
set_option linter.unusedSimpArgs false
namespace Am
open Go Go.Proofs.Try
def shiftF (i : Nat) (t : Tm) : Tm := .mk (t.lab.1, if t.lab.1 = 0 ∧ (i : Int) < t.lab.2 then t.lab.2 - 1 else t.lab.2) t.kids
def eraseF (f i : Nat) (t : Tm) : Tm := .mk t.lab (if t.lab.1 = 1 ∧ t.lab.2 = f then t.kids.eraseIdx i else t.kids)
theorem mapT_erase (f i : Nat) (t : Tm) : mapT (eraseF f i) t = dropT f i false t := by
  refine Rt.ind (P := fun t => mapT (eraseF f i) t = dropT f i false t) (fun a us ih => ?_) t
  rw [mapT, mapTL_eq, List.map_congr_left ih, dropT, dropTL_eq]
  show Rt.mk a (if a.1 = 1 ∧ a.2 = f then _ else _) = _
  rw [if_neg (show ¬ (false = true ∧ a.1 = 0 ∧ (i : Int) < a.2) from fun h => by cases h.1)]
  rfl
theorem mapT_both (f i : Nat) (t : Tm) : mapT (eraseF f i) (mapT (shiftF i) t) = dropT f i true t := by
  refine Rt.ind (P := fun t => mapT (eraseF f i) (mapT (shiftF i) t) = dropT f i true t) (fun a us ih => ?_) t
  have e : mapT (shiftF i) (.mk a us) = .mk (a.1, if a.1 = 0 ∧ (i : Int) < a.2 then a.2 - 1 else a.2) (us.map (mapT (shiftF i))) := by
    rw [mapT, mapTL_eq]; rfl
  have e2 : (us.map (mapT (shiftF i))).map (mapT (eraseF f i)) = us.map (dropT f i true) := by
    rw [List.map_map]; exact List.map_congr_left ih
  rw [e, mapT, mapTL_eq, e2, dropT, dropTL_eq]
  show Rt.mk (a.1, _) (if a.1 = 1 ∧ (if a.1 = 0 ∧ (i : Int) < a.2 then a.2 - 1 else a.2) = f then _ else _) = _
  have e3 : (if a.1 = 0 ∧ (i : Int) < a.2 then a.2 - 1 else a.2) = (if true = true ∧ a.1 = 0 ∧ (i : Int) < a.2 then a.2 - 1 else a.2) := by simp
  rw [e3]
  congr 1
  by_cases k1 : a.1 = 1
  · have : ¬ a.1 = 0 := by omega
    simp [k1]; rfl
  · simp [k1]; rfl
def smallV (a : Int × Int) (_ : Nat) : Prop := a.1 = 0 → a.2 ≤ 1000000
def longC (f i : Nat) (a : Int × Int) (n : Nat) : Prop := a.1 = 1 → a.2 = f → i < n
theorem allTL_of {P : Int × Int → Nat → Prop} {us : List Tm} (h : ∀ t, t ∈ us → allT P t) : allTL P us := by
  induction us with
  | nil => exact trivial
  | cons t us ih => exact ⟨h t (by simp), ih fun t ht => h t (by simp [ht])⟩
theorem allT_small {p : Pl} (hp : p.params.length ≤ 8) (t : Tm) : (sortR p t).2 = true → allT smallV t := by
  refine Rt.ind (P := fun t => (sortR p t).2 = true → allT smallV t) (fun a us ih => ?_) t
  intro hb
  rw [sortR] at hb
  by_cases hc : ((headR p a).2 && decide (us.length ≤ (headR p a).1.kids.length) && argsB p us (headR p a).1.kids) = true
  · simp only [Bool.and_eq_true, decide_eq_true_eq] at hc
    obtain ⟨⟨h1, h2⟩, h3⟩ := hc
    refine ⟨fun k0 => ?_, allTL_of fun t ht => ih t ht (argsB_mem h3 h2 t ht)⟩
    unfold headR at h1
    by_cases n0 : a.2 < 0
    · omega
    · by_cases hlt : a.2 < p.params.length
      · omega
      · simp [n0, k0, hlt] at h1
  · rw [if_neg hc] at hb; cases hb
theorem allT_long (f i : Nat) (own : Bool) (t : Tm) : idleT f i own t = true → allT (longC f i) t := by
  refine Rt.ind (P := fun t => idleT f i own t = true → allT (longC f i) t) (fun a us ih => ?_) t
  intro h
  simp only [idleT, idleTL_eq, Bool.and_eq_true, List.all_eq_true, Bool.not_eq_true'] at h
  obtain ⟨⟨h1, h2⟩, h3⟩ := h
  refine ⟨fun k1 k2 => ?_, allTL_of fun t ht => ih t ht (h3 t ht)⟩
  have : decide (us.length ≤ i) = false := by simpa [k1, k2] using h2
  have := of_decide_eq_false this
  omega
theorem allT_long_shift (f i : Nat) (own : Bool) (t : Tm) : idleT f i own t = true → allT (longC f i) (mapT (shiftF i) t) := by
  refine Rt.ind (P := fun t => idleT f i own t = true → allT (longC f i) (mapT (shiftF i) t)) (fun a us ih => ?_) t
  intro h
  have e : mapT (shiftF i) (.mk a us) = .mk (a.1, if a.1 = 0 ∧ (i : Int) < a.2 then a.2 - 1 else a.2) (us.map (mapT (shiftF i))) := by
    rw [mapT, mapTL_eq]; rfl
  simp only [idleT, idleTL_eq, Bool.and_eq_true, List.all_eq_true, Bool.not_eq_true'] at h
  obtain ⟨⟨h1, h2⟩, h3⟩ := h
  rw [e]
  refine ⟨fun k1 k2 => ?_, allTL_of fun t ht => ?_⟩
  · simp only at k1 k2
    rw [if_neg (by omega)] at k2
    have : decide (us.length ≤ i) = false := by simpa [k1, k2] using h2
    have := of_decide_eq_false this
    rw [List.length_map]; omega
  · obtain ⟨u, hu, rfl⟩ := List.mem_map.1 ht
    exact ih u hu (h3 u hu)
theorem take_1_turner (p3 i : Nat) : PTurner 202 [.op p3 0 0] [p3] (fun h => h p3 = some (.arr 1 [[I i]])) smallV (shiftF i) where
  call a us h Q hR hP hl hq := by
    refine trim_take_1_call ?_
    unfold trim_take_1 tm
    have hq : Q (tm (.mk (a.1, if a.1 = 0 ∧ (i : Int) < a.2 then a.2 - 1 else a.2) us)) h := hq
    simp [tmC]
    by_cases k0 : a.1 = 0
    · have hs := hP k0
      simp only [k0, if_true, true_and] at hq ⊢
      rw [w_loadV_op hR]
      refine ⟨by simp, by omega, ?_⟩
      simp only [List.getD_cons_zero, g_0, w_gtr, w_brA]
      by_cases k1 : (i : Int) < a.2
      · rw [if_pos k1] at hq
        rw [if_pos (by simpa using k1), wrap_i64 (by omega) (by omega)]
        exact retA_of hq
      · rw [if_neg k1] at hq
        rw [if_neg (by simpa using k1)]
        exact retA_of hq
    · simp only [k0, if_false, false_and] at hq ⊢
      exact retA_of hq
  live h hR j hj := by
    have : j = p3 := by simpa using hj
    subst this; exact ⟨_, hR⟩
  loc h h' hR he := by rw [he p3 (by simp)]; exact hR
theorem erase_eq {α : Type} (l : List α) (i : Nat) : l.take i ++ l.drop (i + 1) = l.eraseIdx i := (List.eraseIdx_eq_take_drop_succ l i).symm
theorem take_2_turner (p1 p3 f i : Nat) (hi : i ≤ 1000000) : PTurner 203 [.op p1 0 0, .op p3 0 0] [p1, p3] (fun h => h p1 = some (.arr 1 [[I f]]) ∧ h p3 = some (.arr 1 [[I i]])) (longC f i) (eraseF f i) where
  call a us h Q hR hP hl hq := by
    obtain ⟨c1, c3⟩ := hR
    refine trim_take_2_call ?_
    unfold trim_take_2 tm
    have hq : Q (tm (.mk a (if a.1 = 1 ∧ a.2 = f then us.eraseIdx i else us))) h := hq
    have L3 : ∀ (h' : Heap) (k : AV → Prop), h' p3 = h p3 → k (I i) → loadV (.op p3 0 0) h' k := fun h' k e hk => by rw [w_loadV_op (e.trans c3)]; exact ⟨by simp, by omega, hk⟩
    simp [tmC]
    by_cases k1 : a.1 = 1
    · simp only [k1, if_true, true_and] at hq ⊢
      rw [w_loadV_op c1]
      refine ⟨by simp, by omega, ?_⟩
      simp only [List.getD_cons_zero, g_0, w_eql, w_brA]
      by_cases k2 : a.2 = f
      · have hlt := hP k1 k2
        rw [if_pos k2] at hq
        rw [if_pos (by simpa using k2)]
        refine L3 h _ rfl ?_
        simp only [w_sl_to, tmCs_len]
        refine ⟨trivial, by omega, by omega, by omega, ?_⟩
        refine L3 h _ rfl ?_
        rw [w_add, wrap_k (k := i) (by omega)]
        simp only [w_sl_from, tmCs_len]
        refine ⟨trivial, by omega, by omega, by omega, ?_⟩
        simp only [Int.toNat_natCast]
        refine (SlO.nil 3).app (ys := (tmCs us).take i) (by simp; omega) fun x h2 hs2 => ?_
        rw [List.nil_append] at hs2
        refine ⟨L3 h2 _ (hs2.same ⟨_, c3⟩) rfl, ?_⟩
        refine hs2.app (by simp; omega) fun x2 h3 hs3 => ?_
        rw [hs3.one]
        have ee : (tmCs us).take i ++ (tmCs us).drop (i + 1) = tmCs (us.eraseIdx i) := by
          rw [tmCs_eq, tmCs_eq, ← List.map_take, ← List.map_drop, ← List.map_append, erase_eq]
        rw [ee] at hs3
        obtain ⟨r1, r2⟩ := hs3.wk (tmCs_sz _)
        refine retA_wk (Ref.aggs (.cons .refl (.cons .refl (.cons r1 .nil)))) r2 ?_
        have et : tm (.mk a (us.eraseIdx i)) = .agg [I a.1, I a.2, .rs 3 (tmCs (us.eraseIdx i))] := rfl
        rw [et, k1] at hq
        exact hq
      · rw [if_neg k2] at hq
        rw [if_neg (by simpa using k2)]
        have et : tm (.mk a us) = .agg [I a.1, I a.2, .rs 3 (tmCs us)] := rfl
        rw [et, k1] at hq
        exact retA_of hq
    · simp only [k1, if_false, false_and] at hq ⊢
      exact retA_of hq
  live h hR j hj := by
    simp only [List.mem_cons, List.not_mem_nil, or_false] at hj
    rcases hj with rfl | rfl
    · exact ⟨_, hR.1⟩
    · exact ⟨_, hR.2⟩
  loc h h' hR he := ⟨by rw [he p1 (by simp)]; exact hR.1, by rw [he p3 (by simp)]; exact hR.2⟩
end Am
/- trim.take, drop. -/
set_option linter.unusedVariables false
set_option linter.unusedSimpArgs false
namespace Am
open Go Go.Proofs.Try
theorem shift_nodes (i : Nat) (t : Tm) : (mapT (shiftF i) t).nodes = t.nodes := by
  refine Rt.ind (P := fun t => (mapT (shiftF i) t).nodes = t.nodes) (fun a us ih => ?_) t
  have e : mapT (shiftF i) (.mk a us) = .mk (a.1, if a.1 = 0 ∧ (i : Int) < a.2 then a.2 - 1 else a.2) (us.map (mapT (shiftF i))) := by
    rw [mapT, mapTL_eq]; rfl
  rw [e]
  simp only [Rt.nodes, nodesL_map ih]
theorem fnCs_setF (l : List Fn) (k : Nat) (y : Fn) : (fnCs l).set k (fnC y) = fnCs (l.set k y) := by unfold fnCs; rw [List.map_set]
theorem trim_take_c (s : Sch) (H : SOk s) {f i : Nat} (hf : f < s.funs.length) (hi : i < s.funs[f].sort.kids.length) (hid : idleAll s f i) {hb h : Heap} {c : Nat} (hs : ScO hb h c s) {Q : AV → Heap → Prop} (hq : ∀ h', ScO hb h' c (dropS s f i) → Q (.tup []) h') : ACalls prog n_trim_take [.op c 0 0, I f, I i] h Q := by
  have hfw := H.few
  have hfm := List.getElem_mem hf
  have hn := okS_nodes (H.srt hfm)
  have hbn := H.body hfm
  have hkl : s.funs[f].sort.kids.length ≤ 60 := by
    have h1 := Rt.length_le s.funs[f].sort.kids
    have h2 : s.funs[f].sort.nodes = Rt.nodesL s.funs[f].sort.kids + 1 := by cases s.funs[f].sort; simp [Rt.nodes, Rt.kids]
    omega
  have hf' : (f : Int) < s.funs.length := by omega
  obtain ⟨d, hc, hd, hcd, bc, bd, hfr⟩ := hs
  have hnone : ∀ j, h j = none → hb j = none := fun j hj => by
    cases e : hb j with
    | none => rfl
    | some n => have := hfr j n e; rw [hj] at this; cases this
  refine trim_take_call ?_
  unfold trim_take
  simp only [w_one_v]
  intro p1 hp1
  intro p3 hp3
  have n31 : p3 ≠ p1 := fun e => by subst e; rw [Heap.set_same] at hp3; cases hp3
  have f3 : h p3 = none := by rw [Heap.set_ne n31] at hp3; exact hp3
  have n1c : p1 ≠ c := fun e => by subst e; rw [hp1] at hc; cases hc
  have n1d : p1 ≠ d := fun e => by subst e; rw [hp1] at hd; cases hd
  have n3c : p3 ≠ c := fun e => by subst e; rw [f3] at hc; cases hc
  have n3d : p3 ≠ d := fun e => by subst e; rw [f3] at hd; cases hd
  have c1 : ((h.set p1 (.arr 1 [[I f]])).set p3 (.arr 1 [[I i]])) p1 = some (.arr 1 [[I f]]) := by rw [Heap.set_ne n31.symm, Heap.set_same]
  have c3 := Heap.set_same (h.set p1 (.arr 1 [[I f]])) p3 (.arr 1 [[I i]])
  have cc : ((h.set p1 (.arr 1 [[I f]])).set p3 (.arr 1 [[I i]])) c = some (.arr 2 [[.rs 2 (syCs s.syms), .os d s.funs.length]]) := by rw [Heap.set_ne n3c.symm, Heap.set_ne n1c.symm]; exact hc
  have cd : ((h.set p1 (.arr 1 [[I f]])).set p3 (.arr 1 [[I i]])) d = some (.arr 5 (fnCs s.funs)) := by rw [Heap.set_ne n3d.symm, Heap.set_ne n1d.symm]; exact hd
  have cfr : ∀ j n, hb j = some n → ((h.set p1 (.arr 1 [[I f]])).set p3 (.arr 1 [[I i]])) j = some n := fun j n hj => by
    have a1 : j ≠ p1 := fun e => by subst e; rw [hnone _ hp1] at hj; cases hj
    have a3 : j ≠ p3 := fun e => by subst e; rw [hnone _ f3] at hj; cases hj
    rw [Heap.set_ne a3, Heap.set_ne a1]; exact hfr j n hj
  generalize ((h.set p1 (.arr 1 [[I f]])).set p3 (.arr 1 [[I i]])) = h2 at c1 c3 cc cd cfr
  have dlen : (fnCs s.funs).length = s.funs.length := fnCs_len _
  have LC : ∀ (h' : Heap) (k : AV → Prop), h' c = h2 c → k (.os d s.funs.length) → loadV (.op c 0 (0 + 1)) h' k := fun h' k e hk => by rw [w_loadV_op (e.trans cc)]; exact ⟨by simp, by omega, hk⟩
  have L1 : ∀ (h' : Heap) (k : AV → Prop), h' p1 = h2 p1 → k (I f) → loadV (.op p1 0 0) h' k := fun h' k e hk => by rw [w_loadV_op (e.trans c1)]; exact ⟨by simp, by omega, hk⟩
  have L3 : ∀ (h' : Heap) (k : AV → Prop), h' p3 = h2 p3 → k (I i) → loadV (.op p3 0 0) h' k := fun h' k e hk => by rw [w_loadV_op (e.trans c3)]; exact ⟨by simp, by omega, hk⟩
  simp only [w_nil_op, w_fld_op]
  refine LC h2 _ rfl ?_
  refine L1 h2 _ rfl ?_
  rw [w_idx_os cd]
  refine ⟨rfl, by omega, hf', by rw [dlen]; exact Nat.le_refl _, ?_⟩
  simp only [w_fld_op, Int.toNat_natCast, Nat.zero_add, Nat.add_zero]
  rw [w_loadV_op cd, fnCs_get hf]
  refine ⟨by rw [dlen]; exact hf, by omega, ?_⟩
  simp only [fnC_1, srC_eq]
  refine LC h2 _ rfl ?_
  refine L1 h2 _ rfl ?_
  refine L3 h2 _ rfl ?_
  simp only [w_sl_to, srCs_len, Int.toNat_natCast]
  refine ⟨trivial, by omega, by omega, by omega, ?_⟩
  refine L3 h2 _ rfl ?_
  rw [w_add, wrap_k (k := i) (by omega)]
  simp only [w_sl_from, srCs_len, Int.toNat_natCast]
  refine ⟨trivial, by omega, by omega, by omega, ?_⟩
  refine (SlO.nil 1).app (ys := (srCs s.funs[f].sort.kids).take i) (by simp; omega) fun x h21 hs1 => ?_
  rw [List.nil_append] at hs1
  refine ⟨LC h21 _ (hs1.same ⟨_, cc⟩) rfl, L1 h21 _ (hs1.same ⟨_, c1⟩) rfl, L3 h21 _ (hs1.same ⟨_, c3⟩) rfl, ?_⟩
  refine hs1.app (by simp; omega) fun x2 h26 hs2 => ?_
  have ee : (srCs s.funs[f].sort.kids).take i ++ (srCs s.funs[f].sort.kids).drop (i + 1) = srCs (s.funs[f].sort.kids.eraseIdx i) := by
    rw [srCs_eq, srCs_eq, ← List.map_take, ← List.map_drop, ← List.map_append, erase_eq]
  rw [ee] at hs2
  refine ⟨LC h26 _ (hs2.same ⟨_, cc⟩) rfl, L1 h26 _ (hs2.same ⟨_, c1⟩) rfl, ?_⟩
  have cd26 : h26 d = some (.arr 5 (fnCs s.funs)) := (hs2.same ⟨_, cd⟩).trans cd
  rw [w_idx_os cd26]
  refine ⟨rfl, by omega, hf', by rw [dlen]; exact Nat.le_refl _, ?_⟩
  simp only [w_fld_op, Int.toNat_natCast, Nat.zero_add, Nat.add_zero]
  rw [hs2.one, w_store cd26, fnCs_get hf]
  refine ⟨by rw [dlen]; exact hf, by simp, ?_⟩
  have hsp : splice (fnC s.funs[f]) 1 [x2] = [S s.funs[f].name, x2, I s.funs[f].body.lab.1, I s.funs[f].body.lab.2, .rs 3 (tmCs s.funs[f].body.kids)] := rfl
  rw [hsp]
  have y32d := Heap.set_same h26 d (.arr 5 ((fnCs s.funs).set f [S s.funs[f].name, x2, I s.funs[f].body.lab.1, I s.funs[f].body.lab.2, .rs 3 (tmCs s.funs[f].body.kids)]))
  have y32 : ∀ j, j ≠ d → (∃ n, h2 j = some n) → (h26.set d (.arr 5 ((fnCs s.funs).set f [S s.funs[f].name, x2, I s.funs[f].body.lab.1, I s.funs[f].body.lab.2, .rs 3 (tmCs s.funs[f].body.kids)]))) j = h2 j := fun j hj he => by rw [Heap.set_ne hj, hs2.same he]
  refine LC _ _ (y32 c hcd ⟨_, cc⟩) ?_
  refine L1 _ _ (y32 p1 n1d ⟨_, c1⟩) ?_
  refine LC _ _ (y32 c hcd ⟨_, cc⟩) ?_
  refine L1 _ _ (y32 p1 n1d ⟨_, c1⟩) ?_
  rw [w_idx_os y32d]
  refine ⟨rfl, by omega, hf', by simp, ?_⟩
  simp only [w_fld_op, Int.toNat_natCast, Nat.zero_add, Nat.add_zero]
  rw [w_loadG_op y32d]
  have hgf : ((fnCs s.funs).set f [S s.funs[f].name, x2, I s.funs[f].body.lab.1, I s.funs[f].body.lab.2, .rs 3 (tmCs s.funs[f].body.kids)]).getD f [] = [S s.funs[f].name, x2, I s.funs[f].body.lab.1, I s.funs[f].body.lab.2, .rs 3 (tmCs s.funs[f].body.kids)] := by
    rw [List.getD_eq_getElem?_getD, List.getElem?_set_self (by rw [dlen]; exact hf)]; rfl
  rw [hgf]
  refine ⟨by simpa using hf, by omega, ?_⟩
  simp only [List.drop_succ_cons, List.drop_zero, g_0, g_1, g_2]
  -- the new sort freezes
  let y1 : Fn := ⟨s.funs[f].name, .mk () (s.funs[f].sort.kids.eraseIdx i), s.funs[f].body⟩
  have hy1 : fnC y1 = [S s.funs[f].name, .rs 1 (srCs (s.funs[f].sort.kids.eraseIdx i)), I s.funs[f].body.lab.1, I s.funs[f].body.lab.2, .rs 3 (tmCs s.funs[f].body.kids)] := rfl
  have HH : HRef (h26.set d (.arr 5 ((fnCs s.funs).set f [S s.funs[f].name, x2, I s.funs[f].body.lab.1, I s.funs[f].body.lab.2, .rs 3 (tmCs s.funs[f].body.kids)]))) (h2.set d (.arr 5 (fnCs (s.funs.set f y1)))) := by
    intro j n hj
    by_cases e : j = d
    · subst e
      rw [Heap.set_same] at hj
      cases hj
      refine ⟨_, Heap.set_same _ _ _, ?_⟩
      have hx : Ref (h26.set j (.arr 5 ((fnCs s.funs).set f [S s.funs[f].name, x2, I s.funs[f].body.lab.1, I s.funs[f].body.lab.2, .rs 3 (tmCs s.funs[f].body.kids)]))) (h2.set j (.arr 5 (fnCs (s.funs.set f y1)))) x2 (.rs 1 (srCs (s.funs[f].sort.kids.eraseIdx i))) := by
        rcases hs2 with ⟨he, rfl, rfl⟩ | ⟨hne, id, hid, rfl, rfl⟩
        · rw [he]; exact .e0
        · have nid : id ≠ j := fun e => by subst e; rw [hid] at cd; cases cd
          exact .frz (by rw [Heap.set_ne nid, Heap.set_same]) (by rw [Heap.set_ne nid]; exact hid) (Nat.le_refl _) rfl (srCs_sz _) fun i j _ _ => .refl
      rw [← fnCs_setF, hy1] at hx ⊢
      refine .arr (by simp) (fun k hk => ?_) fun k m hk hm => ?_
      · rw [List.getD_eq_getElem?_getD, List.getElem?_set]
        by_cases e : f = k
        · subst e; simp [dlen, hf]
        · rw [if_neg e, ← List.getD_eq_getElem?_getD]
          exact fnCs_sz _ k (by simpa using hk)
      · rw [List.getD_eq_getElem?_getD, List.getD_eq_getElem?_getD, List.getElem?_set, List.getElem?_set]
        by_cases e : f = k
        · subst e
          simp only [if_true, dlen, hf, Option.getD_some]
          exact (Refs.cons .refl (.cons hx (.cons .refl (.cons .refl (.cons .refl .nil))))).get m
        · rw [if_neg e, if_neg e]; exact .refl
    · rw [Heap.set_ne e] at hj
      refine ⟨n, ?_, .refl⟩
      rw [Heap.set_ne e, hs2.same ⟨n, hj⟩]; exact hj
  refine callS_wk (args' := [tm s.funs[f].body, .fn 202 [.op p3 0 0]]) (.cons (by rw [← tm_eta]; exact .refl) (.cons .refl .nil)) HH ?_
  have z : ∀ j, j ≠ d → (h2.set d (.arr 5 (fnCs (s.funs.set f y1)))) j = h2 j := fun j hj => Heap.set_ne hj
  have zd := Heap.set_same h2 d (.arr 5 (fnCs (s.funs.set f y1)))
  have htyped : (sortR (s.place s.funs[f].sort.kids) s.funs[f].body).2 = true := by
    have := H.typed _ hfm
    unfold typedB at this
    simp only [Bool.and_eq_true] at this
    exact this.1
  have hpo := H.place hfm
  refine (take_1_turner p3 i).changed _ (by rw [z p3 n3d]; exact c3) (allT_small (p := s.place s.funs[f].sort.kids) hpo.npar _ htyped) (by omega) ?_
  refine ⟨LC _ _ (z c hcd) rfl, L1 _ _ (z p1 n1d) rfl, ?_⟩
  have dlen2 : (fnCs (s.funs.set f y1)).length = s.funs.length := by simp
  rw [w_idx_os zd]
  refine ⟨rfl, by omega, hf', by rw [dlen2]; exact Nat.le_refl _, ?_⟩
  rw [show tm (mapT (shiftF i) s.funs[f].body) = .agg [I (mapT (shiftF i) s.funs[f].body).lab.1, I (mapT (shiftF i) s.funs[f].body).lab.2, .rs 3 (tmCs (mapT (shiftF i) s.funs[f].body).kids)] from (tm_eta _).symm]
  simp only [w_fld_op, w_agg, List.length_cons, List.length_nil, true_and, g_0, g_1, g_2, Int.toNat_natCast, Nat.zero_add]
  have hgy : (fnCs (s.funs.set f y1)).getD f [] = fnC y1 := by
    rw [fnCs_get (by simpa using hf)]; simp
  rw [w_store zd, hgy]
  refine ⟨by rw [dlen2]; exact hf, by simp, ?_⟩
  let y2 : Fn := ⟨s.funs[f].name, .mk () (s.funs[f].sort.kids.eraseIdx i), mapT (shiftF i) s.funs[f].body⟩
  have hsp2 : splice (fnC y1) 2 [I (mapT (shiftF i) s.funs[f].body).lab.1, I (mapT (shiftF i) s.funs[f].body).lab.2, .rs 3 (tmCs (mapT (shiftF i) s.funs[f].body).kids)] = fnC y2 := rfl
  rw [hsp2, fnCs_setF, List.set_set, Heap.set_set]
  have hlen2 : (s.funs.set f y2).length = s.funs.length := by simp
  have w : ∀ j, j ≠ d → (h2.set d (.arr 5 (fnCs (s.funs.set f y2)))) j = h2 j := fun j hj => Heap.set_ne hj
  refine callS_of (trim_rewrite_c (take_2_turner p1 p3 f i (by omega)) (sy := s.syms) (l := s.funs.set f y2) (d := d) (by rw [hlen2, w c hcd]; exact cc) (Heap.set_same _ _ _) hcd (by simp [n1d.symm, n3d.symm]) ⟨by rw [w p1 n1d]; exact c1, by rw [w p3 n3d]; exact c3⟩ (fun x hx => ?_) (by rw [hlen2]; exact hfw) ?_)
  · obtain ⟨g, hg, rfl⟩ := List.mem_iff_getElem.1 hx
    have hg' : g < s.funs.length := by simpa using hg
    have hidg := hid g hg'
    rw [getD_fn hg'] at hidg
    rw [List.getElem_set]
    by_cases e : f = g
    · subst e
      rw [if_pos rfl]
      exact ⟨allT_long_shift f i _ _ hidg, by rw [shift_nodes]; omega⟩
    · rw [if_neg e]
      exact ⟨allT_long f i _ _ hidg, by have := H.body (List.getElem_mem hg'); omega⟩
  have hfin : (s.funs.set f y2).map (reb (eraseF f i)) = (dropS s f i).funs := by
    refine List.ext_getElem (by simp [dropS]) fun g h1 h2 => ?_
    have hg' : g < s.funs.length := by simpa using h1
    simp only [dropS, List.getElem_map, List.getElem_set, List.getElem_mapIdx]
    by_cases e : f = g
    · subst e
      simp only [if_true, reb, dropF]
      rw [show decide True = true from rfl, ← mapT_both]
    · have e2 : ¬ g = f := fun h => e h.symm
      simp only [e, e2, if_false, reb, dropF, decide_false]
      rw [mapT_erase]
  have hdl : (dropS s f i).funs.length = s.funs.length := by simp [dropS]
  rw [hfin, Heap.set_set]
  refine retA_of (hq _ ⟨d, ?_, Heap.set_same _ _ _, hcd, bc, bd, fun j n hj => ?_⟩)
  · rw [Heap.set_ne hcd, hdl]; exact cc
  · have a1 : j ≠ d := fun e => by subst e; rw [bd] at hj; cases hj
    rw [Heap.set_ne a1]; exact cfr j n hj
end Am
/- trim.drop, Drop. -/
set_option linter.unusedVariables false
set_option linter.unusedSimpArgs false
namespace Am
open Go Go.Proofs.Try
def nPar (s : Sch) (f : Nat) : Nat := (s.funs.getD f default).sort.kids.length
structure FirstI (s : Sch) (f i : Nat) : Prop where
  f1 : 1 ≤ f
  fl : f < s.funs.length
  il : i < nPar s f
  idle : idleAll s f i
  before : ∀ f' i', 1 ≤ f' → f' < f → i' < nPar s f' → ¬ idleAll s f' i'
  first : ∀ i', i' < i → ¬ idleAll s f i'
def NoIdle (s : Sch) : Prop := ∀ f i, 1 ≤ f → f < s.funs.length → i < nPar s f → ¬ idleAll s f i
theorem FirstI.unique {s : Sch} {f i f' i' : Nat} (a : FirstI s f i) (b : FirstI s f' i') : f = f' ∧ i = i' := by
  have hf : f = f' := by
    rcases Nat.lt_trichotomy f f' with h | h | h
    · exact absurd a.idle (b.before f i a.f1 h a.il)
    · exact h
    · exact absurd b.idle (a.before f' i' b.f1 h b.il)
  subst hf
  refine ⟨rfl, ?_⟩
  rcases Nat.lt_trichotomy i i' with h | h | h
  · exact absurd a.idle (b.first i h)
  · exact h
  · exact absurd b.idle (a.first i' h)
def dropStep (s : Sch) (b : Bool) (s' : Sch) : Prop := (b = true ∧ ∃ f i, FirstI s f i ∧ s' = dropS s f i) ∨ (b = false ∧ NoIdle s ∧ s' = s)
theorem idleS_of {s : Sch} {f i : Nat} (hf : 1 ≤ f) (h : idleAll s f i) : idleS s f i = true := by
  unfold idleS
  simp only [Bool.and_eq_true, Bool.not_eq_true', decide_eq_false_iff_not, List.all_eq_true]
  refine ⟨by omega, fun x hx => ?_⟩
  obtain ⟨g, hg, rfl⟩ := List.mem_iff_getElem.1 hx
  have hg' : g < s.funs.length := by simpa using hg
  have := h g hg'
  rw [getD_fn hg'] at this
  simpa using this
def parM (s : Sch) : Nat := (s.funs.map fun f => f.sort.kids.length).sum
theorem sum_set {l : List Nat} : ∀ {k v : Nat} (hk : k < l.length), v < l[k] → (l.set k v).sum < l.sum := by
  induction l with
  | nil => intro k v hk; simp at hk
  | cons x l ih =>
    intro k v hk hv
    cases k with
    | zero => simp at hv ⊢; omega
    | succ k =>
      have := ih (k := k) (v := v) (by simpa using hk) (by simpa using hv)
      simp only [List.set_cons_succ, List.sum_cons]; omega
theorem drop_less {s : Sch} {f i : Nat} (hf : f < s.funs.length) (hi : i < s.funs[f].sort.kids.length) : parM (dropS s f i) < parM s := by
  unfold parM
  have e : (dropS s f i).funs.map (fun f => f.sort.kids.length) = (s.funs.map fun f => f.sort.kids.length).set f (s.funs[f].sort.kids.length - 1) := by
    refine List.ext_getElem (by simp [dropS]) fun g h1 h2 => ?_
    have hg : g < s.funs.length := by simpa [dropS] using h1
    rw [List.getElem_set]
    simp only [dropS, List.getElem_map, List.getElem_mapIdx, dropF]
    by_cases e : f = g
    · subst e
      simp [kids_mk, List.length_eraseIdx, hi]
    · have e2 : ¬ g = f := fun h => e h.symm
      simp [e, e2]
  rw [e]
  exact sum_set (by simpa using hf) (by simp; omega)
theorem trim_drop_c (s : Sch) (H : SOk s) {hb h : Heap} {c : Nat} (hs : ScO hb h c s) {Q : AV → Heap → Prop} (hq : ∀ b s', dropStep s b s' → ∀ h', ScO hb h' c s' → Q (B b) h') : ACalls prog n_trim_drop [.op c 0 0] h Q := by
  have hfw := H.few
  have hpos := H.pos
  refine trim_drop_call ?_
  unfold trim_drop
  refine loop_up s.funs.length (fun k σ h' => σ = [I ((k + 1 : Nat) : Int)] ∧ ScO hb h' c s ∧ ∀ f' i', 1 ≤ f' → f' < k + 1 → i' < nPar s f' → ¬ idleAll s f' i') ⟨rfl, hs, fun f' i' h1 h2 => by omega⟩ (fun k σ' h' ⟨e, _⟩ => by rw [e]; rfl) ?_
  rintro k σ' h1 K hk ⟨rfl, hs1, hno⟩ hK
  have hs1' := hs1
  obtain ⟨d, hc, hd, hcd, bc, bd, hfr⟩ := hs1
  have dlen : (fnCs s.funs).length = s.funs.length := fnCs_len _
  simp only [w_nil_op, w_fld_op]
  rw [w_loadV_op hc]
  refine ⟨by simp, by omega, ?_⟩
  simp only [List.getD_cons_zero, Nat.zero_add, g_0, g_1, w_len_os, w_lss, w_brA]
  by_cases hlt : k + 1 < s.funs.length
  · have hlt' : ((k + 1 : Nat) : Int) < s.funs.length := by omega
    rw [if_pos (by simpa using hlt')]
    rw [w_loadV_op hc]
    refine ⟨by simp, by omega, ?_⟩
    simp only [List.getD_cons_zero, Nat.zero_add, g_0, g_1]
    rw [w_idx_os hd]
    refine ⟨rfl, by omega, hlt', by rw [dlen]; exact Nat.le_refl _, ?_⟩
    simp only [w_fld_op, Int.toNat_natCast, Nat.zero_add, Nat.add_zero]
    rw [w_loadV_op hd, fnCs_get hlt]
    refine ⟨by rw [dlen]; exact hlt, by omega, ?_⟩
    simp only [fnC_1, srC_eq, w_len_rs, srCs_len]
    have hnp : nPar s (k + 1) = s.funs[k + 1].sort.kids.length := by unfold nPar; rw [getD_fn hlt]
    have hkl : s.funs[k + 1].sort.kids.length ≤ 60 := by
      have hn := okS_nodes (H.srt (List.getElem_mem hlt))
      have h1 := Rt.length_le s.funs[k + 1].sort.kids
      have h2 : s.funs[k + 1].sort.nodes = Rt.nodesL s.funs[k + 1].sort.kids + 1 := by cases s.funs[k + 1].sort; simp [Rt.nodes, Rt.kids]
      omega
    refine loop_up s.funs[k + 1].sort.kids.length (fun j σ h' => σ = [I j] ∧ ScO hb h' c s ∧ ∀ i', i' < j → ¬ idleAll s (k + 1) i') ⟨rfl, hs1', fun i' h => by omega⟩ (fun k σ' h' ⟨e, _⟩ => by rw [e]; rfl) ?_
    rintro j σ' h3 K2 hj ⟨rfl, hs3, hno2⟩ hK2
    by_cases hjk : j < s.funs[k + 1].sort.kids.length
    · have hjk' : (j : Int) < s.funs[k + 1].sort.kids.length := by omega
      simp only [g_0, w_lss, hjk', decide_true, w_brA, if_true]
      refine callS_of (trim_idle_c s H hs3 fun b hb2 h4 hs4 => ?_)
      cases b with
      | true =>
        have hid := hb2.1 rfl
        simp only [w_brA, if_true]
        refine callS_of (trim_take_c s H hlt hjk hid hs4 fun h5 hs5 => ?_)
        exact retA_of (hq true _ (.inl ⟨rfl, k + 1, j, ⟨by omega, hlt, by rw [hnp]; exact hjk, hid, hno, hno2⟩, rfl⟩) h5 hs5)
      | false =>
        simp only [w_brA, Bool.false_eq_true, if_false]
        rw [w_add, wrap_k (k := j) (by omega)]
        refine hK2 hjk _ _ ⟨rfl, hs4, fun i' hi' => ?_⟩
        by_cases e : i' = j
        · subst e; exact fun hid => by have := hb2.2 hid; cases this
        · exact hno2 i' (by omega)
    · have hjn : j = s.funs[k + 1].sort.kids.length := by omega
      subst hjn
      simp only [g_0, w_lss, Int.lt_irrefl, decide_false, w_brA, Bool.false_eq_true, if_false]
      rw [w_add, wrap_k (k := k + 1) (by omega)]
      refine hK (by omega) _ _ ⟨rfl, hs3, fun f' i' q1 q2 q3 => ?_⟩
      by_cases e : f' = k + 1
      · subst e; exact hno2 i' (by rw [← hnp]; exact q3)
      · exact hno f' i' q1 (by omega) q3
  · rw [if_neg (by simp; omega)]
    exact retA_of (hq false s (.inr ⟨rfl, fun f i q1 q2 q3 => hno f i q1 (by omega) q3, rfl⟩) _ hs1')
theorem dropStep_ok {s : Sch} {b : Bool} {s' : Sch} (H : SOk s) (h : dropStep s b s') : SOk s' := by
  rcases h with ⟨_, f, i, hp, rfl⟩ | ⟨_, _, rfl⟩
  · exact drop_ok H hp.fl (idleS_of hp.f1 hp.idle)
  · exact H
theorem drop_op : Op 120 dropStep parM :=
  ⟨fun s H hb h c Q hs hq => trim_drop_c s H hs hq, fun s b s' H h => dropStep_ok H h, fun s s' H h => by
    rcases h with ⟨_, f, i, hp, rfl⟩ | ⟨e, _⟩
    · have h1 := hp.il
      unfold nPar at h1
      rw [getD_fn hp.fl] at h1
      exact drop_less hp.fl h1
    · cases e⟩
theorem drop_det : ∀ s b b' s1 s2, dropStep s b s1 → dropStep s b' s2 → b = b' ∧ s1 = s2 := by
  intro s b b' s1 s2 h1 h2
  rcases h1 with ⟨rfl, f, g, hp, rfl⟩ | ⟨rfl, hn, rfl⟩ <;> rcases h2 with ⟨rfl, f', g', hp', rfl⟩ | ⟨rfl, hn', rfl⟩
  · obtain ⟨rfl, rfl⟩ := hp.unique hp'; exact ⟨rfl, rfl⟩
  · exact absurd hp.idle (hn' f g hp.f1 hp.fl hp.il)
  · exact absurd hp'.idle (hn f' g' hp'.f1 hp'.fl hp'.il)
  · exact ⟨rfl, rfl⟩
theorem trim_Drop_c (s : Sch) {h : Heap} {Q : AV → Heap → Prop} (hv : SOk s → ∀ s', Iter dropStep s s' → SOk s' → Q (.tup [sm s', I 0]) h) (hn : ¬ SOk s → Q (.tup [sm ⟨[], []⟩, I 7]) h) : ACalls prog n_trim_Drop [sm s] h Q := by
  refine trim_Drop_call ?_
  unfold trim_Drop sm
  simp only [w_agg, List.length_cons, List.length_nil, true_and, g_0, g_1]
  refine callS_of ?_
  rw [sm_eta]
  refine trim_apply_c drop_op s (fun H s' hi => ?_) fun H => ?_
  · simp [sm]
    exact retA_of (hv H s' hi (hi.ok drop_op H))
  · simp [sm]
    exact retA_of (hn H)
end Am
/- The reference's lists of nodes, and what is reached. -/
set_option linter.unusedVariables false
set_option linter.unusedSimpArgs false
namespace Am
open Go Go.Proofs.Try
mutual
def preT_ : Tm → List Tm
  | .mk a us => .mk a us :: preL us
def preL : List Tm → List Tm
  | [] => []
  | t :: ts => preT_ t ++ preL ts
end
theorem preL_snoc {us : List Tm} {k : Nat} (hk : k < us.length) : preL (us.take (k + 1)) = preL (us.take k) ++ preT_ us[k] := by
  have : ∀ (l : List Tm) (t : Tm), preL (l ++ [t]) = preL l ++ preT_ t := fun l t => by
    induction l with
    | nil => simp [preL]
    | cons u l ih => simp [preL, ih]
  rw [List.take_succ_eq_append_getElem hk, this]
theorem preL_len (us : List Tm) : (∀ t, t ∈ us → (preT_ t).length = t.nodes) → (preL us).length = Rt.nodesL us := by
  induction us with
  | nil => intro _; rfl
  | cons t us ih => intro h; simp only [preL, List.length_append, Rt.nodesL]; rw [h t (by simp), ih fun t ht => h t (by simp [ht])]
theorem pre_len (t : Tm) : (preT_ t).length = t.nodes := by
  refine Rt.ind (P := fun t => (preT_ t).length = t.nodes) (fun a us ih => ?_) t
  simp only [preT_, List.length_cons, Rt.nodes, preL_len us ih]
theorem pre_fcs (t : Tm) : ∀ k, k ∈ fcs t ↔ ∃ x, x ∈ preT_ t ∧ x.lab = (1, k) := by
  refine Rt.ind (P := fun t => ∀ k, k ∈ fcs t ↔ ∃ x, x ∈ preT_ t ∧ x.lab = (1, k)) (fun a us ih => ?_) t
  intro k
  have hL : ∀ l : List Tm, (∀ t, t ∈ l → t ∈ us) → (k ∈ fcsL l ↔ ∃ x, x ∈ preL l ∧ x.lab = (1, k)) := fun l => by
    induction l with
    | nil => intro _; simp [fcsL, preL]
    | cons t l ihl =>
      intro hl
      simp only [fcsL, preL, List.mem_append]
      rw [ih t (hl t (by simp)) k, ihl fun t ht => hl t (by simp [ht])]
      constructor
      · rintro (⟨x, h1, h2⟩ | ⟨x, h1, h2⟩)
        · exact ⟨x, .inl h1, h2⟩
        · exact ⟨x, .inr h1, h2⟩
      · rintro ⟨x, h1 | h1, h2⟩
        · exact .inl ⟨x, h1, h2⟩
        · exact .inr ⟨x, h1, h2⟩
  simp only [fcs, preT_, List.mem_append, List.mem_cons]
  rw [hL us fun t ht => ht]
  constructor
  · rintro (h | ⟨x, h1, h2⟩)
    · by_cases k1 : a.1 = 1
      · rw [if_pos k1] at h
        have : k = a.2 := by simpa using h
        exact ⟨_, .inl rfl, by rw [this]; exact Prod.ext k1 rfl⟩
      · rw [if_neg k1] at h; cases h
    · exact ⟨x, .inr h1, h2⟩
  · rintro ⟨x, rfl | h1, h2⟩
    · left
      simp only [Rt.lab] at h2
      rw [h2]; simp
    · exact .inr ⟨x, h1, h2⟩
theorem vref19_Nodes_c (t : Tm) : ∀ {l : List Tm} {h h0 : Heap} {x : AV} {Q : AV → Heap → Prop}, SlO 3 (tmCs l) h x h0 → (l.length + t.nodes) * 40 ≤ 140737488355328 → (∀ x' h', SlO 3 (tmCs (l ++ preT_ t)) h x' h' → Q x' h') → ACalls prog n_vref19_Nodes [tm t, x] h0 Q := by
  refine Rt.ind (P := fun t => ∀ {l : List Tm} {h h0 : Heap} {x : AV} {Q : AV → Heap → Prop}, SlO 3 (tmCs l) h x h0 → (l.length + t.nodes) * 40 ≤ 140737488355328 → (∀ x' h', SlO 3 (tmCs (l ++ preT_ t)) h x' h' → Q x' h') → ACalls prog n_vref19_Nodes [tm t, x] h0 Q) (fun a us ih => ?_) t
  intro l h h0 x Q hs hm hq
  refine vref19_Nodes_call ?_
  unfold vref19_Nodes tm
  simp only [Rt.nodes] at hm
  have hlen := Rt.length_le us
  simp [tmC]
  refine hs.app (by simp; omega) fun x2 h2 hs2 => ?_
  have hs2' : SlO 3 (tmCs (l ++ [.mk a us])) h x2 h2 := by
    rw [tmCs_eq, List.map_append, ← tmCs_eq]; exact hs2
  refine loop_up us.length (fun k σ h' => ∃ y, σ = [y, I k] ∧ SlO 3 (tmCs (l ++ [.mk a us] ++ preL (us.take k))) h y h') ⟨x2, rfl, by simpa [preL] using hs2'⟩ (fun k σ' h' ⟨_, e, _⟩ => by rw [e]; rfl) ?_
  rintro k σ' h' K hk ⟨y, rfl, hs⟩ hK
  by_cases hlt : k < us.length
  · have hlt' : (k : Int) < us.length := by omega
    have hn := Rt.nodesL_take_succ hlt
    have hn2 := Rt.nodesL_take_le us (k + 1)
    have hpl : (preL (us.take k)).length = Rt.nodesL (us.take k) := preL_len _ fun t _ => pre_len t
    simp [hlt', hlt]
    refine callS_of ?_
    rw [tm_eta]
    rw [List.append_assoc] at hs
    refine ih us[k] (List.getElem_mem hlt) hs (by simp only [List.length_append, List.length_cons, List.length_nil]; omega) fun x3 h3 hs3 => ?_
    rw [wrap_k (k := k) (by omega)]
    refine hK hlt _ _ ⟨x3, rfl, ?_⟩
    rw [preL_snoc hlt, ← List.append_assoc]
    simpa [List.append_assoc] using hs3
  · have hkn : k = us.length := by omega
    subst hkn
    rw [List.take_length] at hs
    simp
    exact retA_of (hq _ _ (by simpa [preT_, List.append_assoc] using hs))
theorem vref19_Nodes_f (t : Tm) (ht : t.nodes ≤ 1000000000) {h : Heap} {Q : AV → Heap → Prop} (hq : Q (.rs 3 (tmCs (preT_ t))) h) : ACalls prog n_vref19_Nodes [tm t, .e0] h Q :=
  ACalls.wk1 (vref19_Nodes_c t (l := []) (h := h) (by simp [tmCs]; exact SlO.nil 3) (by simp; omega) fun x h' hs => by
    obtain ⟨r1, r2⟩ := hs.wk (tmCs_sz _)
    exact ⟨_, _, r1, r2, by simpa using hq⟩)
/-- One more pass. -/
structure PS (s : Sch) (l l' : List Bool) (m : Bool) : Prop where
  len : l'.length = s.funs.length
  mono : ∀ k, l.getD k false = true → l'.getD k false = true
  sound : ∀ k, k < s.funs.length → l'.getD k false = true → Rch s k
  same : m = false → l' = l
  less : m = true → cntF l' < cntF l
theorem vref19_Reach_c (s : Sch) (H : SOk s) {h : Heap} {Q : AV → Heap → Prop} (hq : ∀ l, IsR s l → Q (.rs 1 (bCs l)) h) : ACalls prog n_vref19_Reach [sm s] h Q := by
  have hpos := H.pos
  have hfw := H.few
  refine vref19_Reach_call ?_
  unfold vref19_Reach sm
  simp only [w_agg, List.length_cons, List.length_nil, true_and, g_0, g_1, w_len_rs]
  simp only [fnCs_len]
  refine ⟨rfl, by omega, by omega, fun id hid => ?_⟩
  have hnn : ((s.funs.length : Int)).toNat = s.funs.length := by simp
  rw [hnn]
  have hrep : (List.replicate s.funs.length [B false] : List (List AV)) = bCs (List.replicate s.funs.length false) := by simp [bCs]
  rw [hrep]
  show idxA _ _ _ _ _
  rw [w_idx_os (Heap.set_same _ id _)]
  refine ⟨rfl, by omega, by omega, by simp, ?_⟩
  have ez : ((0 : Int)).toNat = 0 := rfl
  have hlt0 : 0 < (List.replicate s.funs.length false).length := by simp; omega
  rw [ez, w_store (Heap.set_same _ id _), bCs_get hlt0]
  refine ⟨by simp; omega, by simp, ?_⟩
  have hsp : ∀ b, splice [B b] 0 [AV.val (.bool true)] = [B true] := fun b => rfl
  rw [hsp, bCs_set, Heap.set_set]
  have hrepD : ∀ k, (List.replicate s.funs.length false).getD k false = false := fun k => by
    rw [List.getD_eq_getElem?_getD, List.getElem?_replicate]; split <;> rfl
  refine loop_down (fun n σ h' => ∃ l m, σ = [B m] ∧ h' = h.set id (.arr 1 (bCs l)) ∧ n = cntF l + (if m = true then 1 else 0) ∧ l.length = s.funs.length ∧ l.getD 0 false = true ∧ (∀ k, k < s.funs.length → l.getD k false = true → Rch s k) ∧
    (m = false → ∀ j, j < s.funs.length → l.getD j false = true → ∀ k, k ∈ fcs (s.funs.getD j default).body → l.getD k.toNat false = true)) _ ⟨_, true, rfl, rfl, rfl, by simp, by rw [getD_set_b hlt0, if_pos rfl], fun k hk h => ?_, fun h => by cases h⟩ ?_
  · rw [getD_set_b hlt0, hrepD] at h
    by_cases e : k = 0
    · subst e; exact .zero
    · rw [if_neg e] at h; cases h
  rintro n σ' h' K ⟨l, m, rfl, rfl, rfl, hll, hl0, hsd, hcl⟩ hK
  cases m with
  | false =>
    simp only [g_0, w_brA, Bool.false_eq_true, if_false]
    refine retA_wk (.frz (els := bCs l) (Heap.set_same _ _ _) hid (by simp [hll]) (by simp [hll]) (fun i hi => ?_) fun i j _ _ => .refl) (HRef.drop hid) (hq l ⟨hll, fun k hk => ⟨hsd k hk, fun hr => ?_⟩⟩)
    · rw [bCs_get (by omega)]; rfl
    · clear hk
      induction hr with
      | zero => exact hl0
      | @step f k hf hfl hc ih =>
        have := hcl rfl f hfl ih _ hc
        rwa [Int.toNat_natCast] at this
  | true =>
    simp only [g_0, w_brA, if_true]
    refine loop_up s.funs.length (fun k σ h' => ∃ l' m', σ = [B m', I k] ∧ h' = h.set id (.arr 1 (bCs l')) ∧ PS s l l' m' ∧ (m' = false → ∀ j, j < k → l.getD j false = true → ∀ c, c ∈ fcs (s.funs.getD j default).body → l.getD c.toNat false = true)) ⟨l, false, rfl, rfl, ⟨hll, fun _ h => h, hsd, fun _ => rfl, fun h => by cases h⟩, fun _ j hj => by omega⟩ (fun k σ' h' ⟨_, _, e, _⟩ => by rw [e]; rfl) ?_
    rintro k σ' h' K2 hk ⟨l', m', rfl, rfl, hps, hcl'⟩ hK2
    by_cases hlt : k < s.funs.length
    · have hlt' : (k : Int) < s.funs.length := by omega
      have hfm := List.getElem_mem hlt
      obtain ⟨q1, q2⟩ := H.callsOk _ hfm
      have eg : s.funs.getD k default = s.funs[k] := by simp [List.getD_eq_getElem?_getD, hlt]
      simp only [g_0, g_1, w_lss, hlt', decide_true, w_brA, if_true, w_idx_rs, Int.toNat_natCast, w_loadG_ro]
      rw [fnCs_get hlt, fnCs_len]
      refine ⟨trivial, by omega, hlt', by simp, ?_⟩
      simp only [fnC, g_2, g_3, g_4]
      refine callS_of ?_
      rw [tm_eta]
      refine vref19_Nodes_f _ q2 ?_
      simp only [w_len_rs, tmCs_len]
      have hpl := pre_len s.funs[k].body
      refine loop_up (preT_ s.funs[k].body).length (fun q σ h' => ∃ l2 m2, σ = [B m2, I q] ∧ h' = h.set id (.arr 1 (bCs l2)) ∧ PS s l l2 m2 ∧ (m2 = false → (∀ j, j < k → l.getD j false = true → ∀ c, c ∈ fcs (s.funs.getD j default).body → l.getD c.toNat false = true) ∧
        (l.getD k false = true → ∀ i (hi : i < (preT_ s.funs[k].body).length), i < q → (preT_ s.funs[k].body)[i].lab.1 = 1 → l.getD (preT_ s.funs[k].body)[i].lab.2.toNat false = true))) ⟨l', m', rfl, rfl, hps, fun h => ⟨hcl' h, fun _ i hi h0 => by omega⟩⟩ (fun k σ' h' ⟨_, _, e, _⟩ => by rw [e]; rfl) ?_
      rintro q σ' h' K3 hq3 ⟨l2, m2, rfl, rfl, hps2, hcl2⟩ hK3
      have hb := Heap.set_same h id (.arr 1 (bCs l2))
      by_cases hqt : q < (preT_ s.funs[k].body).length
      · have hqt' : (q : Int) < (preT_ s.funs[k].body).length := by omega
        have hwk : IntKind.i64.wrap ((q : Int) + 1) = ((q + 1 : Nat) : Int) := wrap_k (by omega)
        have hkl2 : k < l2.length := by rw [hps2.len]; exact hlt
        have hxm := List.getElem_mem hqt
        generalize hx : (preT_ s.funs[k].body)[q] = x at hxm
        have next : ∀ (hno : l2.getD k false = true → x.lab.1 = 1 → l2.getD x.lab.2.toNat false = true), K3 [B m2, I ((q + 1 : Nat) : Int)] (h.set id (.arr 1 (bCs l2))) := fun hno => by
          refine hK3 hqt _ _ ⟨l2, m2, rfl, rfl, hps2, fun hm => ⟨(hcl2 hm).1, fun hlk i hi hiq h1 => ?_⟩⟩
          by_cases e : i = q
          · subst e
            rw [hx] at h1 ⊢
            have := hps2.same hm
            subst this
            exact hno hlk h1
          · exact (hcl2 hm).2 hlk i hi (by omega) h1
        simp only [g_0, g_1, w_lss, hqt', decide_true, w_brA, if_true, w_idx_rs, Int.toNat_natCast, w_loadG_ro]
        rw [tmCs_get hqt, tmCs_len, hx]
        refine ⟨trivial, by omega, hqt', by simp, ?_⟩
        rw [w_idx_os hb]
        refine ⟨rfl, by omega, hlt', by simp [hps2.len], ?_⟩
        rw [w_loadV_op hb, Int.toNat_natCast, bCs_get hkl2]
        refine ⟨by simpa using hkl2, by omega, ?_⟩
        simp only [g_0, w_brA, tmC_0, tmC_1, w_eql, w_add, hwk]
        cases hk2 : l2.getD k false with
        | false =>
          simp only [Bool.false_eq_true, if_false]
          exact next fun h => by rw [hk2] at h; cases h
        | true =>
          simp only [if_true]
          by_cases k1 : x.lab.1 = 1
          · simp only [k1, decide_true, if_true]
            have hcx : x.lab.2 ∈ fcs s.funs[k].body := (pre_fcs _ _).2 ⟨x, hxm, Prod.ext k1 rfl⟩
            obtain ⟨b0, b1⟩ := q1 _ hcx
            have hxl : x.lab.2.toNat < l2.length := by rw [hps2.len]; omega
            rw [w_idx_os hb]
            refine ⟨rfl, b0, b1, by simp [hps2.len], ?_⟩
            rw [w_loadV_op hb, bCs_get hxl]
            refine ⟨by simpa using hxl, by omega, ?_⟩
            simp only [g_0, w_notA, w_brA]
            cases hx2 : l2.getD x.lab.2.toNat false with
            | true =>
              simp only [Bool.not_true, Bool.false_eq_true, if_false]
              exact next fun _ _ => hx2
            | false =>
              simp only [Bool.not_false, if_true]
              rw [w_idx_os hb]
              refine ⟨rfl, b0, b1, by simp [hps2.len], ?_⟩
              rw [w_store hb, bCs_get hxl]
              refine ⟨by simpa using hxl, by simp, ?_⟩
              rw [hsp, bCs_set, Heap.set_set]
              refine hK3 hqt _ _ ⟨_, true, rfl, rfl, ⟨by simp [hps2.len], fun j hj => ?_, fun j hj h => ?_, fun h => (by cases h), fun _ => ?_⟩, fun h => (by cases h)⟩
              · rw [getD_set_b hxl]
                split
                · rfl
                · exact hps2.mono j hj
              · rw [getD_set_b hxl] at h
                by_cases e : j = x.lab.2.toNat
                · subst e
                  refine .step (hps2.sound k hlt hk2) hlt ?_
                  rw [eg, Int.toNat_of_nonneg b0]; exact hcx
                · rw [if_neg e] at h; exact hps2.sound j hj h
              · have h1 := cntF_set hxl hx2
                have h2 := cntF_mono (l := l) (l' := l2) (by rw [hps2.len, hll]) hps2.mono
                omega
          · simp only [k1, decide_false, Bool.false_eq_true, if_false]
            exact next fun _ h => absurd h k1
      · have hqn : q = (preT_ s.funs[k].body).length := by omega
        subst hqn
        simp only [g_0, g_1, w_lss, Int.lt_irrefl, decide_false, w_brA, Bool.false_eq_true, if_false]
        rw [w_add, wrap_k (k := k) (by omega)]
        refine hK2 hlt _ _ ⟨l2, m2, rfl, rfl, hps2, fun hm j hj hlj c hc => ?_⟩
        by_cases e : j = k
        · subst e
          rw [eg] at hc
          obtain ⟨x, hx1, hx2⟩ := (pre_fcs _ _).1 hc
          obtain ⟨i, hi, rfl⟩ := List.mem_iff_getElem.1 hx1
          have := (hcl2 hm).2 hlj i hi hi (by rw [hx2])
          rw [hx2] at this; exact this
        · exact (hcl2 hm).1 j (by omega) hlj c hc
    · have hkn : k = s.funs.length := by omega
      subst hkn
      simp only [g_0, g_1, w_lss, Int.lt_irrefl, decide_false, w_brA, Bool.false_eq_true, if_false]
      refine hK _ _ _ ?_ ⟨l', m', rfl, rfl, rfl, hps.len, hps.mono 0 hl0, hps.sound, fun hm => ?_⟩
      · cases m' with
        | false => have := hps.same rfl; subst this; simp
        | true => have := hps.less rfl; simp; omega
      · have e := hps.same hm
        subst e
        exact hcl' hm
end Am
/- The reference's keep, Reach. -/
set_option linter.unusedVariables false
set_option linter.unusedSimpArgs false
namespace Am
open Go Go.Proofs.Try
theorem nCs_get {l : List Nat} {k : Nat} (hk : k < l.length) : (nCs l).getD k [] = [I ((l.getD k 0 : Nat) : Int)] := by simp [nCs, List.getD_eq_getElem?_getD, hk]
@[simp] theorem nCs_len (l : List Nat) : (nCs l).length = l.length := by simp [nCs]
theorem nCs_set (l : List Nat) (k v : Nat) : (nCs l).set k [I (v : Int)] = nCs (l.set k v) := by simp [nCs]
def toL (to : List Nat) (k : Int) : Int := (to.getD k.toNat 0 : Nat)
theorem vref23_renumber_f {to : List Nat} {d : Nat} (t : Tm) : ∀ {h : Heap} {Q : AV → Heap → Prop}, h d = some (.arr 1 (nCs to)) → (∀ k, k ∈ fcs t → 0 ≤ k ∧ k < to.length) → t.nodes ≤ 1000000000 → Q (tm (ren (toL to) t)) h → ACalls prog n_vref23_renumber [tm t, .os d to.length] h Q := by
  refine Rt.ind (P := fun t => ∀ {h : Heap} {Q : AV → Heap → Prop}, h d = some (.arr 1 (nCs to)) → (∀ k, k ∈ fcs t → 0 ≤ k ∧ k < to.length) → t.nodes ≤ 1000000000 → Q (tm (ren (toL to) t)) h → ACalls prog n_vref23_renumber [tm t, .os d to.length] h Q) (fun a us ih => ?_) t
  intro h Q hd hc hm hq
  simp only [Rt.nodes] at hm
  have hlen := Rt.length_le us
  refine vref23_renumber_call ?_
  unfold vref23_renumber tm
  have loop : ∀ n : Int, Q (tm (.mk (a.1, n) (us.map (ren (toL to))))) h → loopS (fun s_6 h_7 K_8 =>
      binA .lss (g s_6 0) (I us.length) fun x_9 =>
      brA x_9 (idxA 3 (.rs 3 (tmCs us)) (g s_6 0) h_7 fun p_10 =>
      loadG 3 p_10 h_7 fun c_11 =>
      callS prog n_vref23_renumber [(.agg [(g c_11 0), (g c_11 1), (g c_11 2)]), .os d to.length] h_7 fun r_12 h_13 =>
      aggA 3 r_12 fun c_14 =>
      appA 3 40 (g s_6 3) (.rs 3 [[(g c_14 0), (g c_14 1), (g c_14 2)]]) h_13 fun x_15 h_16 =>
      oneA x_15 <|
      binA .add (g s_6 0) (I 1) fun x_17 =>
      K_8 [x_17, (g s_6 1), (g s_6 2), x_15] h_16) (retA (.agg [(g s_6 1), (g s_6 2), (g s_6 3)]) h_7 Q)) [(I 0), I a.1, I n, .e0] h := by
    intro n hq
    refine loop_up us.length (fun k σ h' => ∃ x, σ = [I k, I a.1, I n, x] ∧ SlO 3 (tmCs ((us.take k).map (ren (toL to)))) h x h') ⟨.e0, rfl, by simp [tmCs]; exact SlO.nil 3⟩ (fun k σ' h' ⟨x, e, _⟩ => by rw [e]; rfl) ?_
    rintro k σ' h' K hk ⟨x, rfl, hs⟩ hK
    by_cases hlt : k < us.length
    · have hlt' : (k : Int) < us.length := by omega
      have hn := kid_nodes hlt
      simp [hlt', hlt]
      refine callS_of ?_
      rw [tm_eta]
      refine ih us[k] (List.getElem_mem hlt) (by rw [hs.same ⟨_, hd⟩]; exact hd) (fun m hm => hc m (by simp only [fcs, List.mem_append]; exact .inr (fcsL_mem.2 ⟨_, List.getElem_mem hlt, hm⟩))) (by omega) ?_
      simp [tm]
      refine hs.app (by simp; omega) fun x2 h3 hs2 => ?_
      rw [hs2.one, wrap_k (k := k) (by omega)]
      refine hK hlt _ _ ⟨x2, rfl, ?_⟩
      rw [List.take_succ_eq_append_getElem hlt, List.map_append, tmCs_eq, List.map_append, ← tmCs_eq, List.map_cons, List.map_nil, List.map_cons, List.map_nil, tmC_eq]
      exact hs2
    · have hkn : k = us.length := by omega
      subst hkn
      simp
      rw [List.take_length] at hs
      obtain ⟨r1, r2⟩ := hs.wk (tmCs_sz _)
      exact retA_wk (Ref.aggs (.cons .refl (.cons .refl (.cons r1 .nil)))) r2 hq
  rw [ren, renL_eq] at hq
  simp [tmC]
  by_cases k1 : a.1 = 1
  · obtain ⟨b0, b1⟩ := hc a.2 (by simp [fcs, k1])
    have hlt : a.2.toNat < to.length := by omega
    simp only [k1, if_true]
    rw [w_idx_os hd]
    refine ⟨rfl, b0, b1, by simp, ?_⟩
    rw [w_loadV_op hd, nCs_get hlt]
    refine ⟨by simpa using hlt, by omega, ?_⟩
    simp only [g_0, w_one_v]
    have := loop (to.getD a.2.toNat 0 : Nat) (by rw [if_pos k1] at hq; exact hq)
    rw [k1] at this
    exact this
  · simp only [k1, if_false]
    exact loop a.2 (by rw [if_neg k1] at hq; exact hq)
def toK (stay : Nat → Bool) (l : List Fn) (bec : List Nat) (n : Nat) : List Nat := (List.range l.length).map fun j => if stay j = true then num stay l j else if j < n then num stay l (bec.getD j 0) else 0
theorem toK_len (stay : Nat → Bool) (l : List Fn) (bec : List Nat) (n : Nat) : (toK stay l bec n).length = l.length := by simp [toK]
theorem toK_get (stay : Nat → Bool) {l : List Fn} (bec : List Nat) (n : Nat) {j : Nat} (hj : j < l.length) : (toK stay l bec n).getD j 0 = if stay j = true then num stay l j else if j < n then num stay l (bec.getD j 0) else 0 := by
  simp [toK, List.getD_eq_getElem?_getD, hj]
def sto (stay : Nat → Bool) (l : List Fn) (k : Nat) : List Nat := (List.range l.length).map fun j => if j < k ∧ stay j = true then num stay l j else 0
theorem keep0 {stays : List Bool} {bec : List Nat} (s : Sch) (H : SOk s) (hsl : stays.length = s.funs.length) (hbl : bec.length = s.funs.length) (hbec : ∀ i, i < s.funs.length → stays.getD i false = false → bec.getD i 0 < s.funs.length ∧ stays.getD (bec.getD i 0) false = true)
    {h : Heap} {Q : AV → Heap → Prop} (hq : ∀ id N, h id = none → Q (sm (keepS s (fun i => stays.getD i false) (toL (toK (fun i => stays.getD i false) s.funs bec s.funs.length)))) (h.set id N)) : ACalls prog n_vref23_keep [sm s, .rs 1 (bCs stays), .rs 1 (nCs bec)] h Q := by
  have hpos := H.pos
  have hfw := H.few
  have hsy := H.nsyms
  refine vref23_keep_call ?_
  unfold vref23_keep sm
  simp only [w_agg, List.length_cons, List.length_nil, true_and, g_0, g_1, w_len_rs]
  simp only [fnCs_len]
  refine ⟨rfl, by omega, by omega, fun id hid => ?_⟩
  have hnn : ((s.funs.length : Int)).toNat = s.funs.length := by simp
  rw [hnn]
  generalize hst : (fun i => stays.getD i false) = stay at hq
  have hstay : ∀ i, stays.getD i false = stay i := fun i => by rw [← hst]
  have hrep : (List.replicate s.funs.length [I 0] : List (List AV)) = nCs (sto stay s.funs 0) := by
    refine List.ext_getElem (by simp [nCs, sto]) fun i h1 h2 => ?_
    simp [nCs, sto]
  rw [hrep]
  show loopS _ _ _
  refine loop_up s.funs.length (fun k σ h' => σ = [I (num stay s.funs k : Nat), I k] ∧ h' = h.set id (.arr 1 (nCs (sto stay s.funs k)))) ⟨by simp [num, keepL], rfl⟩ (fun k σ' h' ⟨e, _⟩ => by rw [e]; rfl) ?_
  rintro k σ' h' K hk ⟨rfl, rfl⟩ hK
  have hb := Heap.set_same h id (.arr 1 (nCs (sto stay s.funs k)))
  have hsto : (sto stay s.funs k).length = s.funs.length := by simp [sto]
  have hnk : num stay s.funs k ≤ s.funs.length := Nat.le_trans (num_le stay s.funs k) (keepL_sub stay s.funs 0).length_le
  by_cases hlt : k < s.funs.length
  · have hlt' : (k : Int) < s.funs.length := by omega
    have ebit : (bCs stays).getD k [] = [B (stay k)] := by rw [bCs_get (by omega), hstay]
    have h1 : k < (bCs stays).length := by simp; omega
    have h1' : (k : Int) < ((bCs stays).length : Int) := by omega
    simp only [g_0, g_1, w_lss, hlt', decide_true, w_brA, if_true, w_idx_rs, Int.toNat_natCast, ebit, w_loadV_ro]
    refine ⟨trivial, by omega, h1', ?_⟩
    have hns := num_succ stay hlt
    cases hsk : stay k with
    | true =>
      simp only [if_true]
      rw [w_idx_os hb]
      refine ⟨rfl, by omega, hlt', by simp [hsto], ?_⟩
      simp only [w_one_v]
      rw [w_store hb, Int.toNat_natCast]
      refine ⟨by simpa [hsto] using hlt, by simp, ?_⟩
      have hsp : splice ((nCs (sto stay s.funs k)).getD k []) 0 [I ((num stay s.funs k : Nat) : Int)] = [I ((num stay s.funs k : Nat) : Int)] := by
        rw [nCs_get (by rw [hsto]; exact hlt)]; rfl
      rw [hsp, nCs_set, Heap.set_set, w_add, w_add, wrap_k (k := k) (by omega), wrap_k (k := num stay s.funs k) (by omega)]
      refine hK hlt _ _ ⟨by rw [hns, hsk]; simp, ?_⟩
      congr 3
      refine List.ext_getElem (by simp [sto]) fun i h1 h2 => ?_
      rw [List.getElem_set]
      by_cases e : k = i
      · subst e; simp [sto, hsk]
      · rw [if_neg e]
        simp only [sto, List.getElem_map, List.getElem_range]
        by_cases h : i < k
        · simp [h, show i < k + 1 by omega]
        · simp [h, show ¬ i < k + 1 by omega]
    | false =>
      simp only [Bool.false_eq_true, if_false]
      rw [w_add, wrap_k (k := k) (by omega)]
      refine hK hlt _ _ ⟨by rw [hns, hsk]; simp, ?_⟩
      congr 3
      refine List.ext_getElem (by simp [sto]) fun i h1 h2 => ?_
      simp only [sto, List.getElem_map, List.getElem_range]
      by_cases e : i = k
      · subst e; simp [hsk]
      · by_cases h : i < k
        · simp [h, show i < k + 1 by omega]
        · simp [h, show ¬ i < k + 1 by omega]
  · have hkn : k = s.funs.length := by omega
    subst hkn
    simp only [g_0, g_1, w_lss, Int.lt_irrefl, decide_false, w_brA, Bool.false_eq_true, if_false]
    have e0 : sto stay s.funs s.funs.length = toK stay s.funs bec 0 := by
      refine List.ext_getElem (by simp [sto, toK]) fun i h1 h2 => ?_
      have hi : i < s.funs.length := by simpa [sto] using h1
      simp [sto, toK, hi]
    rw [e0]
    refine loop_up s.funs.length (fun k σ h' => σ = [I k] ∧ h' = h.set id (.arr 1 (nCs (toK stay s.funs bec k)))) ⟨rfl, rfl⟩ (fun k σ' h' ⟨e, _⟩ => by rw [e]; rfl) ?_
    rintro k σ' h' K hk ⟨rfl, rfl⟩ hK
    have hb := Heap.set_same h id (.arr 1 (nCs (toK stay s.funs bec k)))
    have hto := toK_len stay s.funs bec k
    by_cases hlt : k < s.funs.length
    · have hlt' : (k : Int) < s.funs.length := by omega
      have ebit : (bCs stays).getD k [] = [B (stay k)] := by rw [bCs_get (by omega), hstay]
      have h1 : k < (bCs stays).length := by simp; omega
      have h1' : (k : Int) < ((bCs stays).length : Int) := by omega
      have h2' : (k : Int) < ((nCs bec).length : Int) := by simp; omega
      simp only [g_0, g_1, w_lss, hlt', decide_true, w_brA, if_true, w_idx_rs, Int.toNat_natCast, ebit, w_loadV_ro, w_notA]
      refine ⟨trivial, by omega, h1', ?_⟩
      have hext : ∀ v, (stay k = false → v = num stay s.funs (bec.getD k 0)) → stay k = false → (toK stay s.funs bec k).set k v = toK stay s.funs bec (k + 1) := fun v hv hsk => by
        refine List.ext_getElem (by simp [toK]) fun i h1 h2 => ?_
        rw [List.getElem_set]
        by_cases e : k = i
        · subst e; simp [toK, hsk, hv hsk]
        · rw [if_neg e]
          simp only [toK, List.getElem_map, List.getElem_range]
          by_cases h : i < k
          · simp [h, show i < k + 1 by omega]
          · simp [h, show ¬ i < k + 1 by omega]
      cases hsk : stay k with
      | true =>
        simp only [Bool.not_true, Bool.false_eq_true, if_false]
        rw [w_add, wrap_k (k := k) (by omega)]
        refine hK hlt _ _ ⟨rfl, ?_⟩
        congr 3
        refine List.ext_getElem (by simp [toK]) fun i h1 h2 => ?_
        simp only [toK, List.getElem_map, List.getElem_range]
        by_cases e : i = k
        · subst e; simp [hsk]
        · by_cases h : i < k
          · simp [h, show i < k + 1 by omega]
          · simp [h, show ¬ i < k + 1 by omega]
      | false =>
        obtain ⟨b1, b2⟩ := hbec k hlt (by rw [hstay, hsk])
        rw [hstay] at b2
        simp only [Bool.not_false, if_true]
        rw [nCs_get (by omega)]
        simp only [w_loadV_ro]
        refine ⟨trivial, by omega, h2', ?_⟩
        rw [w_idx_os hb]
        refine ⟨rfl, by omega, by omega, by simp [hto], ?_⟩
        rw [w_loadV_op hb, Int.toNat_natCast, nCs_get (by rw [hto]; exact b1), toK_get stay bec k b1, if_pos b2]
        refine ⟨by simpa [hto] using b1, by omega, ?_⟩
        simp only [g_0]
        rw [w_idx_os hb]
        refine ⟨rfl, by omega, hlt', by simp [hto], ?_⟩
        simp only [w_one_v]
        rw [w_store hb, Int.toNat_natCast]
        refine ⟨by simpa [hto] using hlt, by simp, ?_⟩
        have hsp : ∀ v : Int, splice ((nCs (toK stay s.funs bec k)).getD k []) 0 [I v] = [I v] := fun v => by
          rw [nCs_get (by rw [hto]; exact hlt)]; rfl
        rw [hsp, nCs_set, Heap.set_set, hext _ (fun _ => rfl) hsk, w_add, wrap_k (k := k) (by omega)]
        exact hK hlt _ _ ⟨rfl, rfl⟩
    · have hkn : k = s.funs.length := by omega
      subst hkn
      simp only [g_0, g_1, w_lss, Int.lt_irrefl, decide_false, w_brA, Bool.false_eq_true, if_false]
      have hqq := hq id (.arr 1 (nCs (toK stay s.funs bec s.funs.length))) hid
      generalize hT : h.set id (.arr 1 (nCs (toK stay s.funs bec s.funs.length))) = hb0 at hqq hb ⊢
      refine (SlO.nil 2).app (ys := syCs s.syms) (by simp; omega) fun x h1 hs1 => ?_
      rw [List.nil_append] at hs1
      rw [hs1.one]
      refine loop_up s.funs.length (fun k σ h' => ∃ y, σ = [I k, x, y] ∧ SlO 5 (fnCs ((keepL stay 0 (s.funs.take k)).map fun f => ⟨f.name, f.sort, ren (toL (toK stay s.funs bec s.funs.length)) f.body⟩)) h1 y h') ⟨.e0, rfl, by simp [fnCs, keepL]; exact SlO.nil 5⟩ (fun k σ' h' ⟨x, e, _⟩ => by rw [e]; rfl) ?_
      rintro k σ' h' K hk ⟨y, rfl, hs⟩ hK
      by_cases hlt : k < s.funs.length
      · have hlt' : (k : Int) < s.funs.length := by omega
        have hfm := List.getElem_mem hlt
        have hbn := H.body hfm
        have hn := okS_nodes (H.srt hfm)
        have ebit : (bCs stays).getD k [] = [B (stay k)] := by rw [bCs_get (by omega), hstay]
        have g1' : (k : Int) < ((bCs stays).length : Int) := by simp; omega
        simp only [g_0, g_1, g_2, w_lss, hlt', decide_true, w_brA, if_true, w_idx_rs, Int.toNat_natCast, ebit, w_loadV_ro, w_loadG_ro]
        rw [fnCs_get hlt, fnCs_len]
        refine ⟨trivial, by omega, hlt', by simp, trivial, by omega, g1', ?_⟩
        cases hsk : stay k with
        | true =>
          simp only [if_true, fnC, g_0, g_1, g_2, g_3, g_4]
          refine callS_of ?_
          rw [sr_eta]
          refine vref01_Copy_f _ (by omega) ?_
          refine callS_of ?_
          rw [tm_eta]
          have hd1 : h1 id = some (.arr 1 (nCs (toK stay s.funs bec s.funs.length))) := by rw [hs1.same ⟨_, hb⟩]; exact hb
          have hd2 : h' id = some (.arr 1 (nCs (toK stay s.funs bec s.funs.length))) := by rw [hs.same ⟨_, hd1⟩]; exact hd1
          have := vref23_renumber_f (to := toK stay s.funs bec s.funs.length) (d := id) s.funs[k].body (h := h') (Q := fun r_46 h_47 =>
            aggA 1 (sr s.funs[k].sort) fun c_48 => aggA 3 r_46 fun c_49 => appA 5 80 y (.rs 5 [[S s.funs[k].name, (g c_48 0), (g c_49 0), (g c_49 1), (g c_49 2)]]) h_47 fun x_50 h_51 => oneA x_50 <| binA .add (I k) (I 1) fun x_52 => K [x_52, x, x_50] h_51) hd2 (fun m hm => by rw [hto]; exact (H.callsOk _ hfm).1 m hm) (by omega) ?_
          · rw [hto] at this
            simpa only [w_one_v] using this
          · simp [sr, tm]
            refine hs.app (by have := (keepL_sub stay (s.funs.take k) 0).length_le; rw [List.length_take] at this; simp; omega) fun x2 h3 hs2 => ?_
            rw [hs2.one, wrap_k (k := k) (by omega)]
            refine hK hlt _ _ ⟨x2, rfl, ?_⟩
            rw [keepL_snoc stay hlt, hsk, if_pos rfl, List.map_append]
            unfold fnCs
            rw [List.map_append]
            exact hs2
        | false =>
          simp only [Bool.false_eq_true, if_false]
          rw [w_add, wrap_k (k := k) (by omega)]
          refine hK hlt _ _ ⟨y, rfl, ?_⟩
          rw [keepL_snoc stay hlt, hsk]
          simpa using hs
      · have hkn : k = s.funs.length := by omega
        subst hkn
        simp only [g_0, g_1, g_2, w_lss, Int.lt_irrefl, decide_false, w_brA, Bool.false_eq_true, if_false]
        rw [List.take_length] at hs
        obtain ⟨r1, r2, r3⟩ := hs1.wk2 hs (syCs_sz _) (fnCs_sz _)
        exact retA_wk (Ref.aggs (.cons r1 (.cons r2 .nil))) r3 hqq
end Am
/- The reference's Reach; heavy, is; TrimReach but for the example. -/
set_option linter.unusedVariables false
set_option linter.unusedSimpArgs false
namespace Am
open Go Go.Proofs.Try
theorem vref23_keep_c {stays : List Bool} {bec : List Nat} (s : Sch) (H : SOk s) (hsl : stays.length = s.funs.length) (hbl : bec.length = s.funs.length) (hbec : ∀ i, i < s.funs.length → stays.getD i false = false → bec.getD i 0 < s.funs.length ∧ stays.getD (bec.getD i 0) false = true)
    {h : Heap} {Q : AV → Heap → Prop} (hq : Q (sm (keepS s (fun i => stays.getD i false) (toL (toK (fun i => stays.getD i false) s.funs bec s.funs.length)))) h) : ACalls prog n_vref23_keep [sm s, .rs 1 (bCs stays), .rs 1 (nCs bec)] h Q :=
  ACalls.wk1 (keep0 s H hsl hbl hbec fun id N hid => ⟨_, h, .refl, HRef.drop hid, hq⟩)
theorem keepS_congr {s : Sch} (H : SOk s) {stay : Nat → Bool} {to to' : Int → Int} (he : ∀ f, f ∈ keepL stay 0 s.funs → ∀ k, k ∈ fcs f.body → to k = to' k) : keepS s stay to = keepS s stay to' := by
  unfold keepS
  congr 1
  exact List.map_congr_left fun f hf => by rw [ren_congr f.body (he f hf)]
theorem reach_toK {s : Sch} (H : SOk s) {l : List Bool} (hl : IsR s l) (bec : List Nat) : keepS s (fun i => l.getD i false) (toL (toK (fun i => l.getD i false) s.funs bec s.funs.length)) = reachS s l := by
  refine keepS_congr H fun f hf k hk => ?_
  obtain ⟨j, hj, hs, rfl⟩ := keepL_of hf
  obtain ⟨b0, b1⟩ := H.calls (List.getElem_mem hj) hk
  have hr : Rch s k.toNat := .step ((hl.2 j hj).1 hs) hj (by
    rw [Int.toNat_of_nonneg b0, List.getD_eq_getElem?_getD, List.getElem?_eq_getElem hj]; exact hk)
  have hst := (hl.2 k.toNat (by omega)).2 hr
  unfold toL toN
  rw [toK_get _ bec _ (by omega), if_pos hst]
theorem nCs_zero (n : Nat) : (List.replicate n [I 0] : List (List AV)) = nCs (List.replicate n 0) := by simp [nCs]
theorem nCs_sz (l : List Nat) : ∀ i, i < (nCs l).length → ((nCs l).getD i []).length = 1 := fun i hi => by rw [nCs_get (by simpa using hi)]; rfl
theorem vref23_Reach_c (s : Sch) {h : Heap} {Q : AV → Heap → Prop} (hv : SOk s → ∀ l, IsR s l → Q (.tup [sm (reachS s l), I 0]) h) (hn : ¬ SOk s → Q (.tup [sm ⟨[], []⟩, I 7]) h) : ACalls prog n_vref23_Reach [sm s] h Q := by
  refine vref23_Reach_call ?_
  unfold vref23_Reach sm
  simp only [w_agg, List.length_cons, List.length_nil, true_and, g_0, g_1]
  refine callS_of ?_
  rw [sm_eta]
  refine vref03_Is_c s ?_
  by_cases H : SOk s
  · rw [(schB_iff s).2 H]
    have hfw := H.few
    have hpos := H.pos
    simp only [w_notA, w_brA, Bool.not_true, Bool.false_eq_true, if_false, w_len_rs]
    simp only [fnCs_len]
    have hnn : ((s.funs.length : Int)).toNat = s.funs.length := by simp
    have fin : ∀ (l : List Bool), IsR s l → ∀ (id : Nat), h id = none → callS prog n_vref23_keep [sm s, .rs 1 (bCs l), .os id s.funs.length] (h.set id (.arr 1 (nCs (List.replicate s.funs.length 0)))) fun r_10 h_11 => aggA 2 r_10 fun c_12 => retA (.tup [(.agg [(g c_12 0), (g c_12 1)]), (I 0)]) h_11 Q := fun l hl id hid => by
      refine callS_wk (args' := [sm s, .rs 1 (bCs l), .rs 1 (nCs (List.replicate s.funs.length 0))]) (.cons .refl (.cons .refl (.cons (.frz (Heap.set_same _ _ _) hid (by simp) (by simp) (fun i hi => nCs_sz _ i (by simpa using hi)) fun i j _ _ => .refl) .nil))) (HRef.drop hid) ?_
      have h0 : l.getD 0 false = true := (hl.2 0 (by omega)).2 .zero
      refine vref23_keep_c s H hl.1 (by simp) (fun i hi _ => ?_) ?_
      · have : (List.replicate s.funs.length 0).getD i 0 = 0 := by rw [List.getD_eq_getElem?_getD, List.getElem?_replicate]; split <;> rfl
        rw [this]; exact ⟨by omega, h0⟩
      rw [reach_toK H hl]
      simp [sm]
      exact retA_of (hv H l hl)
    refine ⟨?_, ?_⟩
    · refine callS_of (vref19_Reach_c s H fun l hl => ?_)
      refine ⟨rfl, by omega, by omega, fun id hid => ?_⟩
      rw [hnn, nCs_zero]
      exact fin l hl id hid
    · refine ⟨rfl, by omega, by omega, fun id hid => ?_⟩
      rw [hnn, nCs_zero]
      refine callS_wk (args' := [sm s]) (.cons .refl .nil) (HRef.refl _) (vref19_Reach_c s H fun l hl => ?_)
      exact fin l hl id hid
  · have hf : schB s = false := Bool.eq_false_iff.2 fun e => H ((schB_iff s).1 e)
    rw [hf]
    simp
    exact retA_wk (Ref.tups (.cons (Ref.aggs (.cons .e0 (.cons .e0 .nil))) (.cons .refl .nil))) (HRef.refl h) (hn H)
theorem vlaw23_heavy_c (s : Sch) {h : Heap} {Q : AV → Heap → Prop} (hq : ∀ b, Q (B b) h) : ACalls prog n_vlaw23_heavy [sm s] h Q := by
  refine vlaw23_heavy_call ?_
  unfold vlaw23_heavy sm
  simp only [w_agg, List.length_cons, List.length_nil, true_and, g_0, g_1]
  refine callS_of ?_
  rw [sm_eta]
  refine vref03_Is_c s ?_
  cases hb : schB s with
  | false => simp; exact retA_of (hq _)
  | true =>
    have H := (schB_iff s).1 hb
    have hfw := H.few
    simp only [w_notA, w_brA, Bool.not_true, Bool.false_eq_true, if_false, w_len_rs]
    simp only [fnCs_len]
    refine loop_up s.funs.length (fun k σ h' => ∃ n : Int, σ = [I n, I k] ∧ h' = h ∧ 0 ≤ n ∧ n ≤ 401 * k) ⟨0, rfl, rfl, by omega, by omega⟩ (fun k σ' h' ⟨_, e, _⟩ => by rw [e]; rfl) ?_
    rintro k σ' h' K hk ⟨n, rfl, rfl, h0, h1⟩ hK
    by_cases hlt : k < s.funs.length
    · have hlt' : (k : Int) < s.funs.length := by omega
      simp [hlt', hlt]
      refine callS_of ?_
      rw [tm_eta]
      refine vref02_Nodes_c _ (m := 400) (by omega) ?_
      have hw : IntKind.i64.wrap (n + ((min s.funs[k].body.nodes (400 + 1) : Nat) : Int)) = n + ((min s.funs[k].body.nodes (400 + 1) : Nat) : Int) := wrap_i64 (by omega) (by omega)
      rw [w_add, hw, wrap_k (k := k) (by omega)]
      exact hK hlt _ _ ⟨_, rfl, rfl, by omega, by omega⟩
    · have hkn : k = s.funs.length := by omega
      subst hkn
      simp
      exact retA_of (hq _)
theorem is23_ok (s : Sch) (H : SOk s) {h : Heap} {Q : AV → Heap → Prop} (hq : Q (B true) h) : ACalls prog n_vlaw23_is [sm s, I 0, sm s, I 0] h Q := by
  refine vlaw23_is_call ?_
  unfold vlaw23_is sm
  simp
  refine callS_of ?_
  rw [sm_eta]
  exact vref03_Same_r s H (retA_of hq)
theorem is23_err {h : Heap} {Q : AV → Heap → Prop} (hq : Q (B true) h) : ACalls prog n_vlaw23_is [sm ⟨[], []⟩, I 7, sm ⟨[], []⟩, I 7] h Q := by
  refine vlaw23_is_call ?_
  unfold vlaw23_is sm
  simp
  exact retA_of hq
def Alive23 : Prop := ∀ {h : Heap} {Q : AV → Heap → Prop}, Q (B true) h → ACalls prog n_vlaw23_alive [] h Q
theorem law_TrimReach0 (hal : @Alive23) (s : Sch) {h : Heap} {Q : AV → Heap → Prop} (hq : Q (B true) h) : ACalls prog 11 [sm s] h Q := by
  have hall : callS prog n_vlaw23_alive [] h (fun r h' => retA r h' Q) := callS_of (hal (retA_of hq))
  refine vlaw23_TrimReach_call ?_
  unfold vlaw23_TrimReach
  simp only [sm, w_agg, List.length_cons, List.length_nil, true_and, g_0, g_1]
  refine callS_of ?_
  simp only [sm_eta]
  refine vlaw23_heavy_c s fun b => ?_
  cases b with
  | true => simp; exact hall
  | false =>
    simp only [w_brA, Bool.false_eq_true, if_false]
    refine callS_of (vref23_Reach_c s (fun H l hl => ?_) fun H => ?_)
    · rw [show sm (reachS s l) = .agg [.rs 2 (syCs (reachS s l).syms), .rs 5 (fnCs (reachS s l).funs)] from rfl]
      simp only [w_tup, w_agg, List.length_cons, List.length_nil, List.getD_cons_zero, List.getD_cons_succ, true_and, g_0, g_1]
      refine ⟨by omega, by omega, ?_⟩
      simp only [sm_eta]
      refine callS_of (trim_Reach_c s (fun _ s' hs' H' => ?_) fun h => absurd H h)
      rw [hs' l hl] at H' ⊢
      rw [show sm (reachS s l) = .agg [.rs 2 (syCs (reachS s l).syms), .rs 5 (fnCs (reachS s l).funs)] from rfl]
      simp only [w_tup, w_agg, List.length_cons, List.length_nil, List.getD_cons_zero, List.getD_cons_succ, true_and, g_0, g_1]
      refine ⟨by omega, by omega, ?_⟩
      simp only [sm_eta]
      refine callS_of (is23_ok _ H' ?_)
      simp only [w_brA, if_true]
      exact hall
    · rw [show sm (⟨[], []⟩ : Sch) = .agg [.rs 2 (syCs []), .rs 5 (fnCs [])] from rfl]
      simp only [w_tup, w_agg, List.length_cons, List.length_nil, List.getD_cons_zero, List.getD_cons_succ, true_and, g_0, g_1]
      refine ⟨by omega, by omega, ?_⟩
      refine callS_of (trim_Reach_c s (fun h => absurd h H) fun _ => ?_)
      rw [show sm (⟨[], []⟩ : Sch) = .agg [.rs 2 (syCs []), .rs 5 (fnCs [])] from rfl]
      simp only [w_tup, w_agg, List.length_cons, List.length_nil, List.getD_cons_zero, List.getD_cons_succ, true_and, g_0, g_1]
      refine ⟨by omega, by omega, ?_⟩
      refine callS_of (is23_err ?_)
      simp only [w_brA, if_true]
      exact hall
end Am
/- The reference's pair, all, Merge; trim.Merge; TrimMerge but for the example. -/
set_option linter.unusedVariables false
set_option linter.unusedSimpArgs false
namespace Am
open Go Go.Proofs.Try
open Rt (eqR eqRL eqR_iff)
theorem vref23_all_c (n : Nat) (hn : n ≤ 64) {h : Heap} {Q : AV → Heap → Prop} (hq : ∀ id, h id = none → Q (.os id n) (h.set id (.arr 1 (bCs (List.replicate n true))))) : ACalls prog n_vref23_all [I n] h Q := by
  refine vref23_all_call ?_
  unfold vref23_all
  refine ⟨rfl, by omega, by omega, fun id hid => ?_⟩
  have hnn : ((n : Int)).toNat = n := by simp
  rw [hnn]
  simp only [w_len_os]
  refine loop_up n (fun k σ h' => σ = [I k] ∧ h' = h.set id (.arr 1 (bCs (List.replicate k true ++ List.replicate (n - k) false)))) ⟨rfl, by simp [bCs]⟩ (fun k σ' h' ⟨e, _⟩ => by rw [e]; rfl) ?_
  rintro k σ' h' K hk ⟨rfl, rfl⟩ hK
  have hb := Heap.set_same h id (.arr 1 (bCs (List.replicate k true ++ List.replicate (n - k) false)))
  by_cases hlt : k < n
  · have hlt' : (k : Int) < n := by omega
    simp only [g_0, w_lss, hlt', decide_true, w_brA, if_true]
    rw [w_idx_os hb]
    refine ⟨rfl, by omega, hlt', by simp; omega, ?_⟩
    rw [w_store hb, Int.toNat_natCast]
    refine ⟨by simp; omega, by simp, ?_⟩
    have hsp : splice ((bCs (List.replicate k true ++ List.replicate (n - k) false)).getD k []) 0 [B true] = [B true] := by
      rw [bCs_get (by simp; omega)]; rfl
    rw [hsp, bCs_set, Heap.set_set, w_add, wrap_k (k := k) (by omega)]
    refine hK hlt _ _ ⟨rfl, ?_⟩
    congr 3
    refine List.ext_getElem (by simp; omega) fun i h1 h2 => ?_
    rw [List.getElem_set]
    by_cases e : k = i
    · subst e; simp [List.getElem_append]
    · rw [if_neg e]
      simp only [List.getElem_append, List.length_replicate, List.getElem_replicate]
      by_cases h : i < k
      · simp [h, show i < k + 1 by omega]
      · simp [h, show ¬ i < k + 1 by omega]
  · have hkn : k = n := by omega
    subst hkn
    simp only [g_0, w_lss, Int.lt_irrefl, decide_false, w_brA, Bool.false_eq_true, if_false]
    have := hq id hid
    exact retA_of (by simpa using this)
theorem vref23_pair_c (s : Sch) (H : SOk s) {h : Heap} {Q : AV → Heap → Prop} (hy : ∀ f g, IsPair s.funs f g → Q (.tup [I f, I g, B true]) h) (hn : NoPair s.funs → Q (.tup [I 0, I 0, B false]) h) : ACalls prog n_vref23_pair [sm s] h Q := by
  have hfw := H.few
  refine vref23_pair_call ?_
  unfold vref23_pair sm
  simp only [w_agg, List.length_cons, List.length_nil, true_and, g_0, g_1, w_len_rs]
  simp only [fnCs_len]
  refine loop_ix s.funs.length (fun k => ∀ g', g' < k → ∀ f', f' < g' → ¬ eqF s.funs f' g') (fun g' h => by omega) fun k hk hno K hK => ?_
  by_cases hlt : k < s.funs.length
  · have hlt' : (k : Int) < s.funs.length := by omega
    simp only [g_0, w_lss, hlt', decide_true, w_brA, if_true]
    refine loop_ix k (fun j => ∀ f', f' < j → ¬ eqF s.funs f' k) (fun f' h => by omega) fun j hj hno2 K2 hK2 => ?_
    by_cases hjk : j < k
    · have hjk' : (j : Int) < k := by omega
      have hjl : j < s.funs.length := by omega
      have hjl' : (j : Int) < s.funs.length := by omega
      have hfj := List.getElem_mem hjl
      have hfk := List.getElem_mem hlt
      have nj := okS_nodes (H.srt hfj)
      have bj := H.body hfj
      have next : ¬ eqF s.funs j k → K2 [I ((j + 1 : Nat) : Int)] h := fun hne => hK2 hjk fun f' hf' => by
        by_cases e : f' = j
        · subst e; exact hne
        · exact hno2 f' (by omega)
      simp [hjk', hjl, hjl', hlt, hlt', fnC]
      refine callS_of ?_
      simp only [sr_eta]
      refine vref01_Equal_c _ _ (by omega) ?_
      cases he1 : eqR s.funs[j].sort s.funs[k].sort with
      | false =>
        simp [wrap_k (k := j) (by omega)]
        refine next fun e => ?_
        have := e.1
        rw [getD_fn hjl, getD_fn hlt] at this
        rw [this, Rt.eqR_refl] at he1; cases he1
      | true =>
        simp
        refine callS_of ?_
        simp only [tm_eta]
        refine vref02_Equal_c _ _ (by omega) ?_
        cases he2 : eqR s.funs[j].body s.funs[k].body with
        | false =>
          simp [wrap_k (k := j) (by omega)]
          refine next fun e => ?_
          have := e.2
          rw [getD_fn hjl, getD_fn hlt] at this
          rw [this, Rt.eqR_refl] at he2; cases he2
        | true =>
          simp
          exact retA_of (hy j k ⟨hjk, hlt, ⟨by rw [getD_fn hjl, getD_fn hlt]; exact (eqR_iff _ _).1 he1, by rw [getD_fn hjl, getD_fn hlt]; exact (eqR_iff _ _).1 he2⟩, hno, hno2⟩)
    · have hjk2 : j = k := by omega
      subst hjk2
      simp only [g_0, w_lss, Int.lt_irrefl, decide_false, w_brA, Bool.false_eq_true, if_false]
      rw [w_add, wrap_k (k := j) (by omega)]
      refine hK hlt fun g' hg' f' hf' => ?_
      by_cases e : g' = j
      · subst e; exact hno2 f' hf'
      · exact hno g' (by omega) f' hf'
  · have hkn : k = s.funs.length := by omega
    subst hkn
    simp only [g_0, w_lss, Int.lt_irrefl, decide_false, w_brA, Bool.false_eq_true, if_false]
    exact retA_of (hn hno)
theorem mergeStep_ok {s : Sch} {b : Bool} {s' : Sch} (H : SOk s) (h : mergeStep s b s') : SOk s' := by
  rcases h with ⟨_, f, g, hp, rfl⟩ | ⟨_, _, rfl⟩
  · exact merge_ok H hp.lt hp.gl hp.eq.1
  · exact H
theorem merge_op : Op 117 mergeStep (fun s => s.funs.length) :=
  ⟨fun s H hb h c Q hs hq => trim_merge_c s H hs hq, fun s b s' H h => mergeStep_ok H h, fun s s' H h => by
    rcases h with ⟨_, f, g, hp, rfl⟩ | ⟨e, _⟩
    · have := mergeS_len s f g hp.gl; omega
    · cases e⟩
theorem Iter.unique {Step : Sch → Bool → Sch → Prop} (hd : ∀ s b b' s1 s2, Step s b s1 → Step s b' s2 → b = b' ∧ s1 = s2) {s a b : Sch} (ha : Iter Step s a) : Iter Step s b → a = b := by
  induction ha with
  | done h =>
    intro hb
    cases hb with
    | done h' => exact (hd _ _ _ _ _ h h').2
    | more h' _ => cases (hd _ _ _ _ _ h h').1
  | more h hi ih =>
    intro hb
    cases hb with
    | done h' => cases (hd _ _ _ _ _ h h').1
    | more h' hi' => have := (hd _ _ _ _ _ h h').2; subst this; exact ih hi'
theorem merge_det : ∀ s b b' s1 s2, mergeStep s b s1 → mergeStep s b' s2 → b = b' ∧ s1 = s2 := by
  intro s b b' s1 s2 h1 h2
  rcases h1 with ⟨rfl, f, g, hp, rfl⟩ | ⟨rfl, hn, rfl⟩ <;> rcases h2 with ⟨rfl, f', g', hp', rfl⟩ | ⟨rfl, hn', rfl⟩
  · obtain ⟨rfl, rfl⟩ := hp.unique hp'; exact ⟨rfl, rfl⟩
  · exact absurd hp.eq (hn' g hp.gl f hp.lt)
  · exact absurd hp'.eq (hn g' hp'.gl f' hp'.lt)
  · exact ⟨rfl, rfl⟩
theorem trim_Merge_c (s : Sch) {h : Heap} {Q : AV → Heap → Prop} (hv : SOk s → ∀ s', Iter mergeStep s s' → SOk s' → Q (.tup [sm s', I 0]) h) (hn : ¬ SOk s → Q (.tup [sm ⟨[], []⟩, I 7]) h) : ACalls prog n_trim_Merge [sm s] h Q := by
  refine trim_Merge_call ?_
  unfold trim_Merge sm
  simp only [w_agg, List.length_cons, List.length_nil, true_and, g_0, g_1]
  refine callS_of ?_
  rw [sm_eta]
  refine trim_apply_c merge_op s (fun H s' hi => ?_) fun H => ?_
  · simp [sm]
    exact retA_of (hv H s' hi (hi.ok merge_op H))
  · simp [sm]
    exact retA_of (hn H)
end Am
/- The reference's Merge; TrimMerge but for the example. -/
set_option linter.unusedVariables false
set_option linter.unusedSimpArgs false
namespace Am
open Go Go.Proofs.Try
theorem keepL_ext {stay stay' : Nat → Bool} (l : List Fn) : ∀ i, (∀ j, i ≤ j → j < i + l.length → stay j = stay' j) → keepL stay i l = keepL stay' i l := by
  induction l with
  | nil => intro i _; rfl
  | cons f l ih =>
    intro i h
    simp only [keepL]
    rw [h i (Nat.le_refl _) (by simp), ih (i + 1) fun j a b => h j (by omega) (by simp; omega)]
theorem num_ext {stay stay' : Nat → Bool} {l : List Fn} {k : Nat} (h : ∀ j, j < l.length → stay j = stay' j) (hk : k ≤ l.length) : num stay l k = num stay' l k := by
  unfold num
  rw [keepL_ext (l.take k) 0 fun j _ hj => h j (by simp at hj; omega)]
def staysM (n g : Nat) : List Bool := (List.replicate n true).set g false
def becM (n f g : Nat) : List Nat := (List.replicate n 0).set g f
theorem staysM_get {n g j : Nat} (hj : j < n) : (staysM n g).getD j false = !decide (j = g) := by
  unfold staysM
  rw [List.getD_eq_getElem?_getD, List.getElem?_set]
  by_cases e : g = j
  · subst e; simp [hj]
  · have : ¬ j = g := fun h => e h.symm
    simp [e, this, hj]
theorem keep_merge {s : Sch} (H : SOk s) {f g : Nat} (hfg : f < g) (hg : g < s.funs.length) :
    keepS s (fun i => (staysM s.funs.length g).getD i false) (toL (toK (fun i => (staysM s.funs.length g).getD i false) s.funs (becM s.funs.length f g) s.funs.length)) = mergeS s f g := by
  have hst : ∀ j, j < s.funs.length → (fun i => (staysM s.funs.length g).getD i false) j = (fun h => !decide (h = g)) j := fun j hj => staysM_get hj
  unfold mergeS
  have hk := keepL_ext (stay := fun i => (staysM s.funs.length g).getD i false) (stay' := fun h => !decide (h = g)) s.funs 0 fun j _ hj => hst j (by omega)
  unfold keepS
  rw [hk]
  congr 1
  refine List.map_congr_left fun x hx => ?_
  have hxm : x ∈ s.funs := (keepL_sub _ _ 0).subset hx
  congr 1
  refine ren_congr _ fun k hkc => ?_
  obtain ⟨b0, b1⟩ := H.calls hxm hkc
  have hkn : k.toNat < s.funs.length := by omega
  unfold toL toM toN
  rw [toK_get _ _ _ hkn]
  have e1 := staysM_get (g := g) hkn
  by_cases e : k = g
  · have e2 : k.toNat = g := by omega
    rw [if_neg (by rw [e1]; simp [e2]), if_pos hkn, if_pos e]
    have e3 : (becM s.funs.length f g).getD k.toNat 0 = f := by
      rw [e2]; unfold becM
      rw [List.getD_eq_getElem?_getD, List.getElem?_set]
      simp [hg]
    rw [e3, num_ext hst (by omega)]
  · have e2 : ¬ k.toNat = g := by omega
    rw [if_pos (by rw [e1]; simp [e2]), if_neg e, num_ext hst (by omega)]
/-- What stands in a round: the functions to be merged next, or none. -/
def MSt (cur : Sch) (σ : List AV) : Prop := (∃ f g : Nat, IsPair cur.funs f g ∧ σ = [I f, I g, B true, .rs 2 (syCs cur.syms), .rs 5 (fnCs cur.funs)]) ∨ (NoPair cur.funs ∧ σ = [I 0, I 0, B false, .rs 2 (syCs cur.syms), .rs 5 (fnCs cur.funs)])
theorem frz_bits {h h2 : Heap} {a n : Nat} {l : List Bool} (ha : h2 a = some (.arr 1 (bCs l))) (hn : h a = none) (hl : l.length = n) : Ref h2 h (.os a n) (.rs 1 (bCs l)) :=
  .frz ha hn (by simp [hl]) (by simp [hl]) (fun i hi => by rw [bCs_get (by omega)]; rfl) fun i j _ _ => .refl
theorem frz_nums {h h2 : Heap} {a n : Nat} {l : List Nat} (ha : h2 a = some (.arr 1 (nCs l))) (hn : h a = none) (hl : l.length = n) : Ref h2 h (.os a n) (.rs 1 (nCs l)) :=
  .frz ha hn (by simp [hl]) (by simp [hl]) (fun i hi => by rw [nCs_get (by omega)]; rfl) fun i j _ _ => .refl
/-- The rest of a round, from both lists on. -/
theorem merge_round {cur : Sch} (H : SOk cur) {f g : Nat} (hp : IsPair cur.funs f g) {h h2 : Heap} {a m : Nat} (ham : a ≠ m) (ha : h a = none) (hm : h m = none) (ha2 : h2 a = some (.arr 1 (bCs (List.replicate cur.funs.length true)))) (hm2 : h2 m = some (.arr 1 (nCs (List.replicate cur.funs.length 0)))) (hfr : ∀ j n, h j = some n → h2 j = some n)
    {K : List AV → Heap → Prop} (hK : ∀ σ, MSt (mergeS cur f g) σ → K σ h) :
    idxA 1 (.os a cur.funs.length) (I g) h2 fun p_22 =>
 storeG p_22 [(B false)] h2 fun h_23 =>
 idxA 1 (.os m cur.funs.length) (I g) h_23 fun p_24 =>
 oneA (I f) <|
 storeG p_24 [(I f)] h_23 fun h_25 =>
 callS prog n_vref23_keep [(.agg [.rs 2 (syCs cur.syms), .rs 5 (fnCs cur.funs)]), .os a cur.funs.length, .os m cur.funs.length] h_25 fun r_26 h_27 =>
 aggA 2 r_26 fun c_28 =>
 callS prog n_vref23_pair [(.agg [(Am.g c_28 0), (Am.g c_28 1)])] h_27 fun r_29 h_30 =>
 tupA r_29 0 fun x_31 =>
 tupA r_29 1 fun x_32 =>
 tupA r_29 2 fun x_33 =>
 K [x_31, x_32, x_33, (Am.g c_28 0), (Am.g c_28 1)] h_30 := by
  have hgl := hp.gl
  have hgl' : (g : Int) < cur.funs.length := by omega
  have hlt := hp.lt
  rw [w_idx_os ha2]
  refine ⟨rfl, by omega, hgl', by simp, ?_⟩
  rw [w_store ha2, Int.toNat_natCast]
  refine ⟨by simpa using hgl, by simp, ?_⟩
  have hsp : splice ((bCs (List.replicate cur.funs.length true)).getD g []) 0 [B false] = [B false] := by rw [bCs_get (by simpa using hgl)]; rfl
  rw [hsp, bCs_set]
  have hm3 : (h2.set a (.arr 1 (bCs ((List.replicate cur.funs.length true).set g false)))) m = some (.arr 1 (nCs (List.replicate cur.funs.length 0))) := by rw [Heap.set_ne ham.symm]; exact hm2
  rw [w_idx_os hm3]
  refine ⟨rfl, by omega, hgl', by simp, ?_⟩
  simp only [w_one_v]
  rw [w_store hm3, Int.toNat_natCast]
  refine ⟨by simpa using hgl, by simp, ?_⟩
  have hsp2 : splice ((nCs (List.replicate cur.funs.length 0)).getD g []) 0 [I f] = [I f] := by rw [nCs_get (by simpa using hgl)]; rfl
  rw [hsp2, nCs_set]
  refine callS_wk (args' := [sm cur, .rs 1 (bCs (staysM cur.funs.length g)), .rs 1 (nCs (becM cur.funs.length f g))]) (.cons .refl (.cons (frz_bits (by rw [Heap.set_ne ham, Heap.set_same]; rfl) ha (by simp [staysM])) (.cons (frz_nums (Heap.set_same _ _ _) hm (by simp [becM])) .nil))) (HRef.sub fun j n hj => ?_) ?_
  · have a1 : j ≠ a := fun e => by subst e; rw [ha] at hj; cases hj
    have a2 : j ≠ m := fun e => by subst e; rw [hm] at hj; cases hj
    rw [Heap.set_ne a2, Heap.set_ne a1]; exact hfr j n hj
  have Hm := merge_ok H hp.lt hp.gl hp.eq.1
  refine vref23_keep_c cur H (by simp [staysM]) (by simp [becM]) (fun i hi hst => ?_) ?_
  · rw [staysM_get hi] at hst
    have e : i = g := by simpa using hst
    subst e
    have e3 : (becM cur.funs.length f i).getD i 0 = f := by
      unfold becM
      rw [List.getD_eq_getElem?_getD, List.getElem?_set]
      simp [hi]
    rw [e3, staysM_get (by omega)]
    exact ⟨by omega, by simp; omega⟩
  rw [keep_merge H hp.lt hp.gl]
  rw [show sm (mergeS cur f g) = .agg [.rs 2 (syCs (mergeS cur f g).syms), .rs 5 (fnCs (mergeS cur f g).funs)] from rfl]
  simp only [w_agg, List.length_cons, List.length_nil, true_and, g_0, g_1]
  refine callS_of ?_
  rw [sm_eta]
  refine vref23_pair_c _ Hm (fun f' g' hp' => ?_) fun hno => ?_
  · simp only [w_tup, List.length_cons, List.length_nil, List.getD_cons_zero, List.getD_cons_succ]
    exact ⟨by omega, by omega, by omega, hK _ (.inl ⟨f', g', hp', rfl⟩)⟩
  · simp only [w_tup, List.length_cons, List.length_nil, List.getD_cons_zero, List.getD_cons_succ]
    exact ⟨by omega, by omega, by omega, hK _ (.inr ⟨hno, rfl⟩)⟩
theorem merge_loop {s : Sch} (H : SOk s) {h : Heap} {Q : AV → Heap → Prop} (hv : SOk s → ∀ s', Iter mergeStep s s' → SOk s' → Q (.tup [sm s', I 0]) h) {σ : List AV} (hσ : MSt s σ) :
    loopS (fun s_13 h_14 K_15 =>
brA (g s_13 2) (lenA (g s_13 4) fun x_16 =>
lenA (g s_13 4) fun x_17 =>
(callS prog n_vref23_all [x_16] h_14 fun r_18 h_19 =>
mkA 1 8 [(I 0)] x_17 x_17 h_19 fun x_20 h_21 =>
idxA 1 r_18 (g s_13 1) h_21 fun p_22 =>
storeG p_22 [(B false)] h_21 fun h_23 =>
idxA 1 x_20 (g s_13 1) h_23 fun p_24 =>
oneA (g s_13 0) <|
storeG p_24 [(g s_13 0)] h_23 fun h_25 =>
callS prog n_vref23_keep [(.agg [(g s_13 3), (g s_13 4)]), r_18, x_20] h_25 fun r_26 h_27 =>
aggA 2 r_26 fun c_28 =>
callS prog n_vref23_pair [(.agg [(g c_28 0), (g c_28 1)])] h_27 fun r_29 h_30 =>
tupA r_29 0 fun x_31 =>
tupA r_29 1 fun x_32 =>
tupA r_29 2 fun x_33 =>
K_15 [x_31, x_32, x_33, (g c_28 0), (g c_28 1)] h_30) ∧
(mkA 1 8 [(I 0)] x_17 x_17 h_14 fun x_34 h_35 =>
callS prog n_vref23_all [x_16] h_35 fun r_36 h_37 =>
idxA 1 r_36 (g s_13 1) h_37 fun p_38 =>
storeG p_38 [(B false)] h_37 fun h_39 =>
idxA 1 x_34 (g s_13 1) h_39 fun p_40 =>
oneA (g s_13 0) <|
storeG p_40 [(g s_13 0)] h_39 fun h_41 =>
callS prog n_vref23_keep [(.agg [(g s_13 3), (g s_13 4)]), r_36, x_34] h_41 fun r_42 h_43 =>
aggA 2 r_42 fun c_44 =>
callS prog n_vref23_pair [(.agg [(g c_44 0), (g c_44 1)])] h_43 fun r_45 h_46 =>
tupA r_45 0 fun x_47 =>
tupA r_45 1 fun x_48 =>
tupA r_45 2 fun x_49 =>
K_15 [x_47, x_48, x_49, (g c_44 0), (g c_44 1)] h_46)) (retA (.tup [(.agg [(g s_13 3), (g s_13 4)]), (I 0)]) h_14 Q)) σ h := by
  refine loop_down (fun n σ h' => h' = h ∧ ∃ cur, SOk cur ∧ (∀ s', Iter mergeStep cur s' → Iter mergeStep s s') ∧ MSt cur σ ∧ n = cur.funs.length) _ ⟨rfl, s, H, fun _ h => h, hσ, rfl⟩ ?_
  rintro n σ h' K ⟨rfl, cur, Hc, hit, hst, rfl⟩ hK
  have hfw := Hc.few
  rcases hst with ⟨f, g, hp, rfl⟩ | ⟨hno, rfl⟩
  · simp only [g_0, g_1, g_2, g_3, g_4, w_brA, if_true, w_len_rs]
    simp only [fnCs_len]
    have hnn : ((cur.funs.length : Int)).toNat = cur.funs.length := by simp
    have hl := mergeS_len cur f g hp.gl
    have Hm := merge_ok Hc hp.lt hp.gl hp.eq.1
    have hKK : ∀ σ, MSt (mergeS cur f g) σ → K σ h' := fun σ hm => hK _ _ _ (by omega) ⟨rfl, mergeS cur f g, Hm, fun s' hi => hit s' (.more (.inl ⟨rfl, f, g, hp, rfl⟩) hi), hm, rfl⟩
    refine ⟨?_, ?_⟩
    · refine callS_of (vref23_all_c _ hfw fun a ha => ?_)
      refine ⟨rfl, by omega, by omega, fun m hm => ?_⟩
      rw [hnn, nCs_zero]
      have ham : a ≠ m := fun e => by subst e; rw [Heap.set_same] at hm; cases hm
      have hm0 : h' m = none := by rw [Heap.set_ne ham.symm] at hm; exact hm
      refine merge_round Hc hp ham ha hm0 (by rw [Heap.set_ne ham, Heap.set_same]) (Heap.set_same _ _ _) (fun j n hj => ?_) hKK
      have a1 : j ≠ a := fun e => by subst e; rw [ha] at hj; cases hj
      have a2 : j ≠ m := fun e => by subst e; rw [hm0] at hj; cases hj
      rw [Heap.set_ne a2, Heap.set_ne a1]; exact hj
    · refine ⟨rfl, by omega, by omega, fun m hm => ?_⟩
      rw [hnn, nCs_zero]
      refine callS_of (vref23_all_c _ hfw fun a ha => ?_)
      have ham : a ≠ m := fun e => by subst e; rw [Heap.set_same] at ha; cases ha
      have ha0 : h' a = none := by rw [Heap.set_ne ham] at ha; exact ha
      refine merge_round Hc hp ham ha0 hm (Heap.set_same _ _ _) (by rw [Heap.set_ne ham.symm, Heap.set_same]) (fun j n hj => ?_) hKK
      have a1 : j ≠ a := fun e => by subst e; rw [ha0] at hj; cases hj
      have a2 : j ≠ m := fun e => by subst e; rw [hm] at hj; cases hj
      rw [Heap.set_ne a1, Heap.set_ne a2]; exact hj
  · simp only [g_0, g_1, g_2, g_3, g_4, w_brA, Bool.false_eq_true, if_false]
    exact retA_of (hv H cur (hit cur (.done (.inr ⟨rfl, hno, rfl⟩))) Hc)
theorem vref23_Merge_c (s : Sch) {h : Heap} {Q : AV → Heap → Prop} (hv : SOk s → ∀ s', Iter mergeStep s s' → SOk s' → Q (.tup [sm s', I 0]) h) (hn : ¬ SOk s → Q (.tup [sm ⟨[], []⟩, I 7]) h) : ACalls prog n_vref23_Merge [sm s] h Q := by
  refine vref23_Merge_call ?_
  unfold vref23_Merge sm
  simp only [w_agg, List.length_cons, List.length_nil, true_and, g_0, g_1]
  refine callS_of ?_
  rw [sm_eta]
  refine vref03_Is_c s ?_
  by_cases H : SOk s
  · rw [(schB_iff s).2 H]
    simp only [w_notA, w_brA, Bool.not_true, Bool.false_eq_true, if_false]
    refine callS_of (vref03_Copy_c s H ?_)
    simp only [sm, w_agg, List.length_cons, List.length_nil, true_and, g_0, g_1]
    refine callS_of (vref23_pair_c s H (fun f g hp => ?_) fun hno => ?_)
    · simp only [w_tup, List.length_cons, List.length_nil, List.getD_cons_zero, List.getD_cons_succ]
      refine ⟨by omega, by omega, by omega, ?_⟩
      exact merge_loop H hv (.inl ⟨f, g, hp, rfl⟩)
    · simp only [w_tup, List.length_cons, List.length_nil, List.getD_cons_zero, List.getD_cons_succ]
      refine ⟨by omega, by omega, by omega, ?_⟩
      exact merge_loop H hv (.inr ⟨hno, rfl⟩)
  · have hf : schB s = false := Bool.eq_false_iff.2 fun e => H ((schB_iff s).1 e)
    rw [hf]
    simp
    exact retA_wk (Ref.tups (.cons (Ref.aggs (.cons .e0 (.cons .e0 .nil))) (.cons .refl .nil))) (HRef.refl h) (hn H)
theorem law_TrimMerge0 (hal : @Alive23) (s : Sch) {h : Heap} {Q : AV → Heap → Prop} (hq : Q (B true) h) : ACalls prog 12 [sm s] h Q := by
  have hall : callS prog n_vlaw23_alive [] h (fun r h' => retA r h' Q) := callS_of (hal (retA_of hq))
  refine vlaw23_TrimMerge_call ?_
  unfold vlaw23_TrimMerge
  simp only [sm, w_agg, List.length_cons, List.length_nil, true_and, g_0, g_1]
  refine callS_of ?_
  simp only [sm_eta]
  refine vlaw23_heavy_c s fun b => ?_
  cases b with
  | true => simp; exact hall
  | false =>
    simp only [w_brA, Bool.false_eq_true, if_false]
    refine callS_of (vref23_Merge_c s (fun H s1 hi1 H1 => ?_) fun H => ?_)
    · rw [show sm s1 = .agg [.rs 2 (syCs s1.syms), .rs 5 (fnCs s1.funs)] from rfl]
      simp only [w_tup, w_agg, List.length_cons, List.length_nil, List.getD_cons_zero, List.getD_cons_succ, true_and, g_0, g_1]
      refine ⟨by omega, by omega, ?_⟩
      simp only [sm_eta]
      refine callS_of (trim_Merge_c s (fun _ s' hi' H' => ?_) fun h => absurd H h)
      have e := hi1.unique merge_det hi'
      subst e
      rw [show sm s1 = .agg [.rs 2 (syCs s1.syms), .rs 5 (fnCs s1.funs)] from rfl]
      simp only [w_tup, w_agg, List.length_cons, List.length_nil, List.getD_cons_zero, List.getD_cons_succ, true_and, g_0, g_1]
      refine ⟨by omega, by omega, ?_⟩
      simp only [sm_eta]
      refine callS_of (is23_ok _ H' ?_)
      simp only [w_brA, if_true]
      exact hall
    · rw [show sm (⟨[], []⟩ : Sch) = .agg [.rs 2 (syCs []), .rs 5 (fnCs [])] from rfl]
      simp only [w_tup, w_agg, List.length_cons, List.length_nil, List.getD_cons_zero, List.getD_cons_succ, true_and, g_0, g_1]
      refine ⟨by omega, by omega, ?_⟩
      refine callS_of (trim_Merge_c s (fun h => absurd h H) fun _ => ?_)
      rw [show sm (⟨[], []⟩ : Sch) = .agg [.rs 2 (syCs []), .rs 5 (fnCs [])] from rfl]
      simp only [w_tup, w_agg, List.length_cons, List.length_nil, List.getD_cons_zero, List.getD_cons_succ, true_and, g_0, g_1]
      refine ⟨by omega, by omega, ?_⟩
      refine callS_of (is23_err ?_)
      simp only [w_brA, if_true]
      exact hall
end Am
/- The reference's idle, free, without. -/
set_option linter.unusedVariables false
set_option linter.unusedSimpArgs false
namespace Am
open Go Go.Proofs.Try
theorem cntL_zero {v : Int} {us : List Tm} : cntL v us = 0 ↔ ∀ t, t ∈ us → cnt v t = 0 := by
  induction us with
  | nil => simp [cntL]
  | cons t us ih => simp [cntL, ih]
theorem idleT_true (f i : Nat) (t : Tm) : idleT f i true t = (idleT f i false t && decide (cnt (i : Int) t = 0)) := by
  refine Rt.ind (P := fun t => idleT f i true t = (idleT f i false t && decide (cnt (i : Int) t = 0))) (fun a us ih => ?_) t
  rw [Bool.eq_iff_iff]
  have hall : us.all (idleT f i true) = true ↔ us.all (idleT f i false) = true ∧ cntL (i : Int) us = 0 := by
    rw [List.all_eq_true, List.all_eq_true, cntL_zero]
    constructor
    · intro h
      refine ⟨fun t ht => ?_, fun t ht => ?_⟩ <;> (have := h t ht; rw [ih t ht, Bool.and_eq_true, decide_eq_true_eq] at this)
      · exact this.1
      · exact this.2
    · rintro ⟨h1, h2⟩ t ht
      rw [ih t ht, Bool.and_eq_true, decide_eq_true_eq]
      exact ⟨h1 t ht, h2 t ht⟩
  have hcn : cnt (i : Int) (.mk a us) = (if a.1 = 0 ∧ a.2 = (i : Int) then 1 else 0) + cntL (i : Int) us := by rw [cnt]
  rw [Bool.and_eq_true, decide_eq_true_eq, hcn]
  simp only [idleT, idleTL_eq, Bool.and_eq_true, hall, Bool.true_and, Bool.false_and, Bool.not_false, true_and]
  by_cases k : a.1 = 0 ∧ a.2 = (i : Int)
  · rw [if_pos k]
    simp [k.1, k.2]
  · rw [if_neg k]
    have : (decide (a.1 = 0) && decide (a.2 = (i : Int))) = false := by
      cases hh : (decide (a.1 = 0) && decide (a.2 = (i : Int))) with
      | false => rfl
      | true => simp only [Bool.and_eq_true, decide_eq_true_eq] at hh; exact absurd hh k
    rw [this]
    simp only [Bool.not_false, true_and, Nat.zero_add, and_assoc]
theorem vref23_filled_c (f i : Nat) (t : Tm) : ∀ {h : Heap} {Q : AV → Heap → Prop}, t.nodes ≤ 1000000000 → Q (B (idleT f i false t)) h → ACalls prog n_vref23_filled [tm t, I f, I i] h Q := by
  refine Rt.ind (P := fun t => ∀ {h : Heap} {Q : AV → Heap → Prop}, t.nodes ≤ 1000000000 → Q (B (idleT f i false t)) h → ACalls prog n_vref23_filled [tm t, I f, I i] h Q) (fun a us ih => ?_) t
  intro h Q hm hq
  simp only [Rt.nodes] at hm
  have hlen := Rt.length_le us
  have loop : (Q (B (us.all (idleT f i false))) h) → loopS (fun s_7 h_8 K_9 =>
       binA .lss (g s_7 0) (I us.length) fun x_10 =>
       brA x_10 (idxA 3 (.rs 3 (tmCs us)) (g s_7 0) h_8 fun p_11 =>
       loadG 3 p_11 h_8 fun c_12 =>
       callS prog n_vref23_filled [(.agg [(g c_12 0), (g c_12 1), (g c_12 2)]), I f, I i] h_8 fun r_13 h_14 =>
       notA r_13 fun x_15 =>
       brA x_15 (retA (B false) h_14 Q) (binA .add (g s_7 0) (I 1) fun x_16 =>
       K_9 [x_16] h_14)) (retA (B true) h_8 Q)) [(I 0)] h := by
    intro hq
    refine loop_ix us.length (fun k => us.all (idleT f i false) = (us.drop k).all (idleT f i false)) (by simp) fun k hk hi K hK => ?_
    by_cases hlt : k < us.length
    · have hlt' : (k : Int) < us.length := by omega
      have hn := kid_nodes hlt
      simp [hlt', hlt]
      refine callS_of ?_
      rw [tm_eta]
      refine ih us[k] (List.getElem_mem hlt) (by omega) ?_
      rw [List.drop_eq_getElem_cons hlt, List.all_cons] at hi
      cases hb : idleT f i false us[k] with
      | false => rw [hb] at hi; simp; exact retA_of (by rw [hi] at hq; simpa using hq)
      | true => rw [hb] at hi; simp [wrap_k (k := k) (by omega)]; exact hK hlt (by rw [hi]; simp)
    · have hkn : k = us.length := by omega
      subst hkn
      rw [List.drop_length] at hi
      simp
      exact retA_of (by rw [hi] at hq; simpa using hq)
  refine vref23_filled_call ?_
  unfold vref23_filled tm
  simp only [idleT, idleTL_eq, Bool.false_and, Bool.not_false, Bool.true_and] at hq
  simp [tmC]
  by_cases k1 : a.1 = 1
  · by_cases k2 : a.2 = f
    · by_cases k3 : us.length ≤ i
      · have k3' : (us.length : Int) ≤ i := by omega
        simp [k1, k2, k3, k3']
        exact retA_of (by simpa [k1, k2, k3] using hq)
      · have k3' : ¬ (us.length : Int) ≤ i := by omega
        simp only [k1, k2, k3, k3', if_true, if_false]
        exact loop (by simpa [k1, k2, k3, -List.all_eq_true] using hq)
    · simp only [k1, k2, if_true, if_false]
      exact loop (by simpa [k1, k2, -List.all_eq_true] using hq)
  · simp only [k1, if_false]
    exact loop (by simpa [k1, -List.all_eq_true] using hq)
theorem vref23_idle_c (s : Sch) (H : SOk s) {f i : Nat} (hf : f < s.funs.length) {h : Heap} {Q : AV → Heap → Prop} (hq : ∀ b, (b = true ↔ (1 ≤ f ∧ idleAll s f i)) → Q (B b) h) : ACalls prog n_vref23_idle [sm s, I f, I i] h Q := by
  have hfw := H.few
  refine vref23_idle_call ?_
  unfold vref23_idle sm
  simp only [w_agg, List.length_cons, List.length_nil, true_and, g_0, g_1, w_eql, w_brA]
  by_cases f0 : f = 0
  · rw [if_pos (by simp [f0])]
    exact retA_of (hq false ⟨fun h => (by cases h), fun h => by omega⟩)
  rw [if_neg (by simp; omega)]
  have hf' : (f : Int) < s.funs.length := by omega
  have hfm := List.getElem_mem hf
  have hb := H.body hfm
  have ef := getD_fn hf
  simp only [w_idx_rs, Int.toNat_natCast, w_fld_ro, w_loadG_ro]
  rw [fnCs_get hf, fnCs_len]
  refine ⟨trivial, by omega, hf', ?_⟩
  simp only [fnC, List.drop_succ_cons, List.drop_zero, g_0, g_1, g_2]
  refine ⟨by simp, callS_of ?_⟩
  rw [tm_eta]
  refine vref02_Count_c (i : Int) _ (by omega) ?_
  simp only [w_gtr, w_brA]
  by_cases hc : cnt (i : Int) s.funs[f].body = 0
  case neg =>
    rw [if_pos (by simp; omega)]
    refine retA_of (hq false ⟨fun h => (by cases h), fun h => ?_⟩)
    have := h.2 f hf
    rw [ef, decide_eq_true rfl, idleT_true, decide_eq_false hc, Bool.and_false] at this
    cases this
  rw [if_neg (by simp; omega)]
  simp only [w_len_rs]
  simp only [fnCs_len]
  refine loop_ix s.funs.length (fun k => ∀ g, g < k → idleT f i false (s.funs.getD g default).body = true) (fun g hg => by omega) fun k hk hi K hK => ?_
  have fin : (∀ g, g < s.funs.length → idleT f i false (s.funs.getD g default).body = true) ↔ idleAll s f i := by
    constructor
    · intro h g hg
      by_cases e : g = f
      · subst e
        rw [decide_eq_true rfl, idleT_true, h g hg, ef, decide_eq_true hc]; rfl
      · rw [decide_eq_false e]; exact h g hg
    · intro h g hg
      have := h g hg
      by_cases e : g = f
      · subst e
        rw [decide_eq_true rfl, idleT_true, Bool.and_eq_true] at this; exact this.1
      · rw [decide_eq_false e] at this; exact this
  by_cases hlt : k < s.funs.length
  · have hlt' : (k : Int) < s.funs.length := by omega
    have hkm := List.getElem_mem hlt
    have hbk := H.body hkm
    have ek := getD_fn hlt
    simp [hlt', hlt]
    refine callS_of ?_
    rw [tm_eta]
    refine vref23_filled_c f i _ (by omega) ?_
    cases hbb : idleT f i false s.funs[k].body with
    | false =>
      simp
      refine retA_of (hq false ⟨fun h => (by cases h), fun h => ?_⟩)
      have := fin.2 h.2 k hlt
      rw [ek, hbb] at this; cases this
    | true =>
      simp [wrap_k (k := k) (by omega)]
      refine hK hlt fun g hg => ?_
      by_cases e : g = k
      · subst e; rw [ek]; exact hbb
      · exact hi g (by omega)
  · have hkn : k = s.funs.length := by omega
    subst hkn
    simp
    exact retA_of (hq true ⟨fun _ => ⟨by omega, fin.1 hi⟩, fun _ => rfl⟩)
theorem vref23_free_c (s : Sch) (H : SOk s) {h : Heap} {Q : AV → Heap → Prop} (hy : ∀ f i, FirstI s f i → Q (.tup [I f, I i, B true]) h) (hn : NoIdle s → Q (.tup [I 0, I 0, B false]) h) : ACalls prog n_vref23_free [sm s] h Q := by
  have hfw := H.few
  refine vref23_free_call ?_
  unfold vref23_free sm
  simp only [w_agg, List.length_cons, List.length_nil, true_and, g_0, g_1, w_len_rs]
  simp only [fnCs_len]
  refine loop_ix s.funs.length (fun k => ∀ f' i', 1 ≤ f' → f' < k → i' < nPar s f' → ¬ idleAll s f' i') (fun f' i' h1 h2 => by omega) fun k hk hno K hK => ?_
  by_cases hlt : k < s.funs.length
  · have hlt' : (k : Int) < s.funs.length := by omega
    have hnp : nPar s k = s.funs[k].sort.kids.length := by unfold nPar; rw [getD_fn hlt]
    have hkl : s.funs[k].sort.kids.length ≤ 60 := by
      have hn := okS_nodes (H.srt (List.getElem_mem hlt))
      have h1 := Rt.length_le s.funs[k].sort.kids
      have h2 : s.funs[k].sort.nodes = Rt.nodesL s.funs[k].sort.kids + 1 := by cases s.funs[k].sort; simp [Rt.nodes, Rt.kids]
      omega
    simp [hlt', hlt, srC_eq]
    refine loop_ix s.funs[k].sort.kids.length (fun j => ∀ i', i' < j → ¬ (1 ≤ k ∧ idleAll s k i')) (fun i' h => by omega) fun j hj hno2 K2 hK2 => ?_
    by_cases hjk : j < s.funs[k].sort.kids.length
    · have hjk' : (j : Int) < s.funs[k].sort.kids.length := by omega
      simp only [g_0, w_lss, hjk', decide_true, w_brA, if_true]
      refine callS_of ?_
      rw [sm_eta]
      refine vref23_idle_c s H hlt fun b hb2 => ?_
      cases b with
      | true =>
        obtain ⟨h1, hid⟩ := hb2.1 rfl
        simp only [w_brA, if_true]
        exact retA_of (hy k j ⟨h1, hlt, by rw [hnp]; exact hjk, hid, hno, fun i' hi' hh => hno2 i' hi' ⟨h1, hh⟩⟩)
      | false =>
        simp only [w_brA, Bool.false_eq_true, if_false]
        rw [w_add, wrap_k (k := j) (by omega)]
        refine hK2 hjk fun i' hi' => ?_
        by_cases e : i' = j
        · subst e; exact fun hid => by have := hb2.2 hid; cases this
        · exact hno2 i' (by omega)
    · have hjn : j = s.funs[k].sort.kids.length := by omega
      subst hjn
      simp only [g_0, w_lss, Int.lt_irrefl, decide_false, w_brA, Bool.false_eq_true, if_false]
      rw [wrap_k (k := k) (by omega)]
      refine hK hlt fun f' i' q1 q2 q3 => ?_
      by_cases e : f' = k
      · subst e; exact fun hid => hno2 i' (by rw [← hnp]; exact q3) ⟨q1, hid⟩
      · exact hno f' i' q1 (by omega) q3
  · have hkn : k = s.funs.length := by omega
    subst hkn
    simp only [g_0, w_lss, Int.lt_irrefl, decide_false, w_brA, Bool.false_eq_true, if_false]
    exact retA_of (hn fun f i q1 q2 q3 => hno f i q1 q2 q3)
end Am
/- The reference's without, dropped, Drop; TrimDrop but for the example. -/
set_option linter.unusedVariables false
set_option linter.unusedSimpArgs false
namespace Am
open Go Go.Proofs.Try
def erC (c : Prop) [Decidable c] (i : Nat) (l : List Tm) : List Tm := if c then l.eraseIdx i else l
theorem erase_snoc {α : Type} (l : List α) (x : α) (i : Nat) : (l ++ [x]).eraseIdx i = if i = l.length then l else l.eraseIdx i ++ [x] := by
  induction l generalizing i with
  | nil => cases i <;> simp
  | cons y l ih =>
    cases i with
    | zero => simp
    | succ i =>
      simp only [List.cons_append, List.eraseIdx_cons_succ, ih, List.length_cons]
      by_cases e : i = l.length
      · simp [e]
      · have : ¬ i + 1 = l.length + 1 := by omega
        simp [e]
theorem vref23_without_f (f i : Nat) (hi : i ≤ 1000000) (own : Bool) (t : Tm) : ∀ {h : Heap} {Q : AV → Heap → Prop}, allT smallV t → t.nodes ≤ 1000000000 → Q (tm (dropT f i own t)) h → ACalls prog n_vref23_without [tm t, I f, I i, B own] h Q := by
  refine Rt.ind (P := fun t => ∀ {h : Heap} {Q : AV → Heap → Prop}, allT smallV t → t.nodes ≤ 1000000000 → Q (tm (dropT f i own t)) h → ACalls prog n_vref23_without [tm t, I f, I i, B own] h Q) (fun a us ih => ?_) t
  intro h Q hp hm hq
  rw [allT] at hp
  simp only [Rt.nodes] at hm
  have hlen := Rt.length_le us
  have loop : ∀ n : Int, Q (tm (.mk (a.1, n) (erC (a.1 = 1 ∧ a.2 = f) i (us.map (dropT f i own))))) h → loopS (fun s_93 h_94 K_95 =>
       binA .lss (g s_93 0) (I us.length) fun x_96 =>
       brA x_96 (idxA 3 (.rs 3 (tmCs us)) (g s_93 0) h_94 fun p_97 =>
       loadG 3 p_97 h_94 fun c_98 =>
       binA .neq (I a.1) (I 1) fun x_99 =>
       brA x_99 (callS prog n_vref23_without [(.agg [(g c_98 0), (g c_98 1), (g c_98 2)]), I f, I i, B own] h_94 fun r_100 h_101 =>
       aggA 3 r_100 fun c_102 =>
       appA 3 40 (g s_93 3) (.rs 3 [[(g c_102 0), (g c_102 1), (g c_102 2)]]) h_101 fun x_103 h_104 =>
       oneA x_103 <|
       binA .add (g s_93 0) (I 1) fun x_105 =>
       K_95 [x_105, (g s_93 1), (g s_93 2), x_103] h_104) (binA .neq (I a.2) (I f) fun x_106 =>
       brA x_106 (callS prog n_vref23_without [(.agg [(g c_98 0), (g c_98 1), (g c_98 2)]), I f, I i, B own] h_94 fun r_107 h_108 =>
       aggA 3 r_107 fun c_109 =>
       appA 3 40 (g s_93 3) (.rs 3 [[(g c_109 0), (g c_109 1), (g c_109 2)]]) h_108 fun x_110 h_111 =>
       oneA x_110 <|
       binA .add (g s_93 0) (I 1) fun x_112 =>
       K_95 [x_112, (g s_93 1), (g s_93 2), x_110] h_111) (binA .neq (g s_93 0) (I i) fun x_113 =>
       brA x_113 (callS prog n_vref23_without [(.agg [(g c_98 0), (g c_98 1), (g c_98 2)]), I f, I i, B own] h_94 fun r_114 h_115 =>
       aggA 3 r_114 fun c_116 =>
       appA 3 40 (g s_93 3) (.rs 3 [[(g c_116 0), (g c_116 1), (g c_116 2)]]) h_115 fun x_117 h_118 =>
       oneA x_117 <|
       binA .add (g s_93 0) (I 1) fun x_119 =>
       K_95 [x_119, (g s_93 1), (g s_93 2), x_117] h_118) (binA .add (g s_93 0) (I 1) fun x_120 =>
       K_95 [x_120, (g s_93 1), (g s_93 2), (g s_93 3)] h_94)))) (retA (.agg [(g s_93 1), (g s_93 2), (g s_93 3)]) h_94 Q)) [(I 0), I a.1, I n, .e0] h := by
    intro n hq
    refine loop_up us.length (fun k σ h' => ∃ x, σ = [I k, I a.1, I n, x] ∧ SlO 3 (tmCs (erC (a.1 = 1 ∧ a.2 = f) i ((us.take k).map (dropT f i own)))) h x h') ⟨.e0, rfl, by unfold erC; simp [tmCs]; exact SlO.nil 3⟩ (fun k σ' h' ⟨x, e, _⟩ => by rw [e]; rfl) ?_
    rintro k σ' h' K hk ⟨x, rfl, hs⟩ hK
    by_cases hlt : k < us.length
    · have hlt' : (k : Int) < us.length := by omega
      have hn := kid_nodes hlt
      have hle : ((tmCs (erC (a.1 = 1 ∧ a.2 = f) i ((us.take k).map (dropT f i own)))).length + 1) * 40 ≤ 140737488355328 := by
        have : (erC (a.1 = 1 ∧ a.2 = f) i ((us.take k).map (dropT f i own))).length ≤ k := by
          unfold erC
          have h0 : ((us.take k).map (dropT f i own)).length = k := by simp; omega
          split
          · rw [List.length_eraseIdx, h0]; split <;> omega
          · omega
        rw [tmCs_len]; omega
      have hlk : ((us.take k).map (dropT f i own)).length = k := by simp; omega
      -- an argument that stays
      have stay : (¬ (a.1 = 1 ∧ a.2 = f) ∨ k ≠ i) → callS prog n_vref23_without [tm us[k], I f, I i, B own] h' fun r_114 h_115 =>
           aggA 3 r_114 fun c_116 =>
           appA 3 40 x (.rs 3 [[(g c_116 0), (g c_116 1), (g c_116 2)]]) h_115 fun x_117 h_118 =>
           oneA x_117 <|
           binA .add (I k) (I 1) fun x_119 =>
           K [x_119, I a.1, I n, x_117] h_118 := by
        intro hst
        refine callS_of (ih us[k] (List.getElem_mem hlt) (allTL_mem hp.2 _ (List.getElem_mem hlt)) (by omega) ?_)
        rw [show tm (dropT f i own us[k]) = .agg [I (dropT f i own us[k]).lab.1, I (dropT f i own us[k]).lab.2, .rs 3 (tmCs (dropT f i own us[k]).kids)] from (tm_eta _).symm]
        simp only [w_agg, List.length_cons, List.length_nil, true_and, g_0, g_1, g_2]
        refine hs.app (by simpa using hle) fun x2 h3 hs2 => ?_
        rw [hs2.one, w_add, wrap_k (k := k) (by omega)]
        refine hK hlt _ _ ⟨x2, rfl, ?_⟩
        have e : erC (a.1 = 1 ∧ a.2 = f) i ((us.take (k + 1)).map (dropT f i own)) = erC (a.1 = 1 ∧ a.2 = f) i ((us.take k).map (dropT f i own)) ++ [dropT f i own us[k]] := by
          rw [List.take_succ_eq_append_getElem hlt, List.map_append, List.map_cons, List.map_nil]
          unfold erC
          by_cases hc : a.1 = 1 ∧ a.2 = f
          · have : ¬ i = ((us.take k).map (dropT f i own)).length := by rw [hlk]; rcases hst with e | e; exact absurd hc e; omega
            rw [if_pos hc, if_pos hc, erase_snoc, if_neg this]
          · rw [if_neg hc, if_neg hc]
        rw [e, tmCs_eq, List.map_append, ← tmCs_eq, List.map_cons, List.map_nil, tmC_eq]
        exact hs2
      simp only [g_0, g_1, g_2, g_3, w_lss, hlt', decide_true, w_brA, if_true, w_idx_rs, Int.toNat_natCast, w_loadG_ro]
      rw [tmCs_get hlt, tmCs_len]
      refine ⟨trivial, by omega, hlt', by simp, ?_⟩
      simp only [tmC_0, tmC_1, tmC_2, tm_eta, w_neq, w_brA]
      by_cases k1 : a.1 = 1
      · rw [if_neg (by simp [k1])]
        by_cases k2 : a.2 = f
        · rw [if_neg (by simp [k2])]
          by_cases k3 : k = i
          · rw [if_neg (by simp [k3]), w_add, wrap_k (k := k) (by omega)]
            refine hK hlt _ _ ⟨x, rfl, ?_⟩
            have e : erC (a.1 = 1 ∧ a.2 = f) i ((us.take (k + 1)).map (dropT f i own)) = erC (a.1 = 1 ∧ a.2 = f) i ((us.take k).map (dropT f i own)) := by
              rw [List.take_succ_eq_append_getElem hlt, List.map_append, List.map_cons, List.map_nil]
              unfold erC
              rw [if_pos ⟨k1, k2⟩, if_pos ⟨k1, k2⟩, erase_snoc, if_pos (by rw [hlk]; exact k3.symm)]
              rw [List.eraseIdx_of_length_le (by rw [hlk]; omega)]
            rw [e]; exact hs
          · rw [if_pos (by simp; omega)]
            exact stay (.inr k3)
        · rw [if_pos (by simpa using k2)]
          exact stay (.inl fun h => k2 h.2)
      · rw [if_pos (by simpa using k1)]
        exact stay (.inl fun h => k1 h.1)
    · have hkn : k = us.length := by omega
      subst hkn
      simp only [g_0, g_1, g_2, g_3, w_lss, Int.lt_irrefl, decide_false, w_brA, Bool.false_eq_true, if_false]
      rw [List.take_length] at hs
      obtain ⟨r1, r2⟩ := hs.wk (tmCs_sz _)
      exact retA_wk (Ref.aggs (.cons .refl (.cons .refl (.cons r1 .nil)))) r2 hq
  rw [dropT, dropTL_eq] at hq
  have hq : Q (tm (.mk (a.1, if own = true ∧ a.1 = 0 ∧ (i : Int) < a.2 then a.2 - 1 else a.2) (erC (a.1 = 1 ∧ a.2 = f) i (us.map (dropT f i own))))) h := hq
  refine vref23_without_call ?_
  unfold vref23_without tm
  simp only [tmC, w_agg, List.length_cons, List.length_nil, true_and, g_0, g_1, g_2, w_one_v, w_brA, w_len_rs]
  simp only [tmCs_len]
  cases own with
  | false =>
    rw [if_neg (show ¬ (false = true) from fun h => by cases h)]
    exact loop a.2 (by rw [if_neg (by simp)] at hq; exact hq)
  | true =>
    rw [if_pos rfl, w_eql, w_brA]
    by_cases k0 : a.1 = 0
    · rw [if_pos (by simpa using k0), w_gtr, w_brA]
      by_cases k1 : (i : Int) < a.2
      · have hsm := hp.1 k0
        rw [if_pos (by simpa using k1), w_sub, wrap_i64 (by omega) (by omega)]
        simp only [w_one_v]
        exact loop (a.2 - 1) (by rw [if_pos ⟨rfl, k0, k1⟩] at hq; exact hq)
      · rw [if_neg (by simpa using k1)]
        exact loop a.2 (by rw [if_neg (fun h => k1 h.2.2)] at hq; exact hq)
    · rw [if_neg (by simpa using k0)]
      exact loop a.2 (by rw [if_neg (fun h => k0 h.2.1)] at hq; exact hq)
end Am
/- The reference's dropped, Drop; TrimDrop but for the example. -/
set_option linter.unusedVariables false
set_option linter.unusedSimpArgs false
namespace Am
open Go Go.Proofs.Try
theorem vref03_Copy_o (s : Sch) (H : SOk s) {h : Heap} {Q : AV → Heap → Prop} (hq : ∀ d, h d = none → Q (.agg [.rs 2 (syCs s.syms), .os d s.funs.length]) (h.set d (.arr 5 (fnCs s.funs)))) : ACalls prog n_vref03_Copy [sm s] h Q := by
  refine vref03_Copy_call ?_
  unfold vref03_Copy sm
  have hsy := H.nsyms
  have hfw := H.few
  have hpos := H.pos
  simp only [w_agg, List.length_cons, List.length_nil, true_and, g_0, g_1]
  refine (SlO.nil 2).app (ys := syCs s.syms) (by simp; omega) fun x h1 hs1 => ?_
  rw [List.nil_append] at hs1
  rw [hs1.one]
  simp
  refine loop_up s.funs.length (fun k σ h' => ∃ y, σ = [I k, x, y] ∧ SlO 5 (fnCs (s.funs.take k)) h1 y h') ⟨.e0, rfl, by simp [fnCs]; exact SlO.nil 5⟩ (fun k σ' h' ⟨x, e, _⟩ => by rw [e]; rfl) ?_
  rintro k σ' h' K hk ⟨y, rfl, hs⟩ hK
  by_cases hlt : k < s.funs.length
  · have hlt' : (k : Int) < s.funs.length := by omega
    have hfm := List.getElem_mem hlt
    have hb := H.body hfm
    have hn := okS_nodes (H.srt hfm)
    simp [hlt', hlt]
    refine callS_of ?_
    rw [sr_eta]
    refine vref01_Copy_f _ (by omega) ?_
    refine callS_of ?_
    rw [tm_eta]
    refine vref02_Copy_f _ (by omega) ?_
    simp [sr, tm]
    refine hs.app (by simp; omega) fun x2 h3 hs2 => ?_
    rw [hs2.one, wrap_k (k := k) (by omega)]
    refine hK hlt _ _ ⟨x2, rfl, ?_⟩
    rw [fnCs_snoc hlt]
    exact hs2
  · have hkn : k = s.funs.length := by omega
    subst hkn
    simp
    rw [List.take_length] at hs
    obtain ⟨r1, r2⟩ := hs1.wk (syCs_sz _)
    rcases hs with ⟨he, _, _⟩ | ⟨hne, d, hd, rfl, rfl⟩
    · have h0 : (fnCs s.funs).length = 0 := by rw [he]; rfl
      rw [fnCs_len] at h0; omega
    have hd2 : h d = none := by
      cases hn : h d with
      | none => rfl
      | some n => obtain ⟨m, hm, _⟩ := r2 d n hn; rw [hd] at hm; cases hm
    rcases hs1 with ⟨he, rfl, rfl⟩ | ⟨hne1, d1, hd1, rfl, rfl⟩
    · rw [fnCs_len]
      exact retA_wk (Ref.aggs (.cons .e0 (.cons .refl .nil))) (HRef.refl _) (by rw [he] at hq; exact hq d hd)
    · have hne2 : d1 ≠ d := fun e => by subst e; rw [Heap.set_same] at hd; cases hd
      rw [fnCs_len]
      refine retA_wk (Ref.aggs (.cons (.frz (els := syCs s.syms) (by rw [Heap.set_ne hne2, Heap.set_same]) (by rw [Heap.set_ne hne2]; exact hd1) (Nat.le_refl _) rfl (syCs_sz _) fun i j _ _ => .refl) (.cons .refl .nil))) (HRef.sub fun j n hj => ?_) (hq d hd2)
      by_cases e : j = d
      · subst e; rw [Heap.set_same] at hj ⊢; exact hj
      · rw [Heap.set_ne e] at hj ⊢
        rw [Heap.set_ne]; exact hj
        rintro rfl; rw [hd1] at hj; cases hj
def bodyF (f i g : Nat) (x : Fn) : Fn := ⟨x.name, x.sort, dropT f i (decide (g = f)) x.body⟩
def upTo (f i k : Nat) (l : List Fn) : List Fn := l.mapIdx fun g x => if g < k then bodyF f i g x else x
theorem upTo_len (f i k : Nat) (l : List Fn) : (upTo f i k l).length = l.length := by simp [upTo]
theorem upTo_get (f i k : Nat) {l : List Fn} {g : Nat} (hg : g < l.length) : (upTo f i k l)[g]'(by rw [upTo_len]; exact hg) = if g < k then bodyF f i g l[g] else l[g] := by simp [upTo]
theorem upTo_set (f i : Nat) {l : List Fn} {k : Nat} (hk : k < l.length) : (upTo f i k l).set k (bodyF f i k l[k]) = upTo f i (k + 1) l := by
  refine List.ext_getElem (by simp [upTo]) fun g h1 h2 => ?_
  have hg : g < l.length := by rw [upTo_len] at h2; exact h2
  rw [List.getElem_set, upTo_get f i (k + 1) hg]
  by_cases e : k = g
  · subst e; simp
  · rw [if_neg e, upTo_get f i k hg]
    by_cases h : g < k
    · rw [if_pos h, if_pos (by omega)]
    · rw [if_neg h, if_neg (by omega)]
theorem upTo_zero (f i : Nat) (l : List Fn) : upTo f i 0 l = l := by
  refine List.ext_getElem (by simp [upTo]) fun g h1 h2 => ?_
  rw [upTo_get f i 0 h2, if_neg (by omega)]
theorem vref23_dropped_c (s : Sch) (H : SOk s) {f i : Nat} (hf : f < s.funs.length) (hi : i < s.funs[f].sort.kids.length) {h : Heap} {Q : AV → Heap → Prop} (hq : Q (sm (dropS s f i)) h) : ACalls prog n_vref23_dropped [sm s, I f, I i] h Q := by
  have hfw := H.few
  have hfm := List.getElem_mem hf
  have hf' : (f : Int) < s.funs.length := by omega
  have hkl : s.funs[f].sort.kids.length ≤ 60 := by
    have hn := okS_nodes (H.srt hfm)
    have h1 := Rt.length_le s.funs[f].sort.kids
    have h2 : s.funs[f].sort.nodes = Rt.nodesL s.funs[f].sort.kids + 1 := by cases s.funs[f].sort; simp [Rt.nodes, Rt.kids]
    omega
  refine vref23_dropped_call ?_
  unfold vref23_dropped sm
  simp only [w_agg, List.length_cons, List.length_nil, true_and, g_0, g_1]
  refine callS_of ?_
  rw [sm_eta]
  refine vref03_Copy_o s H fun d hd => ?_
  simp only [w_agg, List.length_cons, List.length_nil, true_and, g_0, g_1, w_len_rs]
  simp only [fnCs_len]
  refine loop_up s.funs.length (fun k σ h' => σ = [I k] ∧ h' = h.set d (.arr 5 (fnCs (upTo f i k s.funs)))) ⟨rfl, by rw [upTo_zero]⟩ (fun k σ' h' ⟨e, _⟩ => by rw [e]; rfl) ?_
  rintro k σ' h' K hk ⟨rfl, rfl⟩ hK
  have hb := Heap.set_same h d (.arr 5 (fnCs (upTo f i k s.funs)))
  have hul := upTo_len f i k s.funs
  have dlen : (fnCs (upTo f i k s.funs)).length = s.funs.length := by rw [fnCs_len, hul]
  by_cases hlt : k < s.funs.length
  · have hlt' : (k : Int) < s.funs.length := by omega
    have hkm := List.getElem_mem hlt
    have hbk := H.body hkm
    have htyped : (sortR (s.place s.funs[k].sort.kids) s.funs[k].body).2 = true := by
      have := H.typed _ hkm
      unfold typedB at this
      simp only [Bool.and_eq_true] at this
      exact this.1
    have hsmall := allT_small (p := s.place s.funs[k].sort.kids) (H.place hkm).npar _ htyped
    simp only [g_0, w_lss, hlt', decide_true, w_brA, if_true, w_idx_rs, Int.toNat_natCast, w_loadG_ro]
    rw [fnCs_get hlt, fnCs_len]
    refine ⟨trivial, by omega, hlt', by simp, ?_⟩
    simp only [fnC, g_0, g_1, g_2, g_3, g_4, w_eql]
    have ed : decide ((k : Int) = f) = decide (k = f) := by rw [decide_eq_decide]; omega
    rw [ed]
    refine callS_of ?_
    rw [tm_eta]
    refine vref23_without_f f i (by omega) _ _ hsmall (by omega) ?_
    rw [w_idx_os hb]
    refine ⟨rfl, by omega, hlt', by rw [dlen]; exact Nat.le_refl _, ?_⟩
    rw [show tm (dropT f i (decide (k = f)) s.funs[k].body) = .agg [I (dropT f i (decide (k = f)) s.funs[k].body).lab.1, I (dropT f i (decide (k = f)) s.funs[k].body).lab.2, .rs 3 (tmCs (dropT f i (decide (k = f)) s.funs[k].body).kids)] from (tm_eta _).symm]
    simp only [w_fld_op, w_agg, List.length_cons, List.length_nil, true_and, g_0, g_1, g_2, Int.toNat_natCast, Nat.zero_add]
    have hgk : (fnCs (upTo f i k s.funs)).getD k [] = fnC s.funs[k] := by
      rw [fnCs_get (by rw [hul]; exact hlt), upTo_get f i k hlt, if_neg (by omega)]
    rw [w_store hb, hgk]
    refine ⟨by rw [dlen]; exact hlt, by simp, ?_⟩
    have hsp : splice (fnC s.funs[k]) 2 [I (dropT f i (decide (k = f)) s.funs[k].body).lab.1, I (dropT f i (decide (k = f)) s.funs[k].body).lab.2, .rs 3 (tmCs (dropT f i (decide (k = f)) s.funs[k].body).kids)] = fnC (bodyF f i k s.funs[k]) := rfl
    rw [hsp, fnCs_setF, upTo_set f i hlt, Heap.set_set, w_add, wrap_k (k := k) (by omega)]
    exact hK hlt _ _ ⟨rfl, rfl⟩
  · have hkn : k = s.funs.length := by omega
    subst hkn
    simp only [g_0, w_lss, Int.lt_irrefl, decide_false, w_brA, Bool.false_eq_true, if_false]
    rw [w_idx_os hb]
    refine ⟨rfl, by omega, hf', by rw [dlen]; exact Nat.le_refl _, ?_⟩
    have hgf : (fnCs (upTo f i s.funs.length s.funs)).getD f [] = fnC (bodyF f i f s.funs[f]) := by
      rw [fnCs_get (by rw [hul]; exact hf), upTo_get f i _ hf, if_pos hf]
    simp only [w_fld_op, Int.toNat_natCast, Nat.zero_add, Nat.add_zero]
    rw [w_loadV_op hb, hgf]
    refine ⟨by rw [dlen]; exact hf, by omega, ?_⟩
    have es : g (fnC (bodyF f i f s.funs[f])) 1 = .rs 1 (srCs s.funs[f].sort.kids) := by rw [fnC_1]; exact srC_eq _
    rw [es]
    simp only [w_sl_to, srCs_len, Int.toNat_natCast]
    refine ⟨trivial, by omega, by omega, by omega, ?_⟩
    rw [w_add, wrap_k (k := i) (by omega)]
    simp only [w_sl_from, srCs_len, Int.toNat_natCast]
    refine ⟨trivial, by omega, by omega, by omega, ?_⟩
    refine (SlO.nil 1).app (ys := (srCs s.funs[f].sort.kids).take i) (by simp; omega) fun x h28 hs1 => ?_
    rw [List.nil_append] at hs1
    refine hs1.app (by simp; omega) fun x2 h30 hs2 => ?_
    have ee : (srCs s.funs[f].sort.kids).take i ++ (srCs s.funs[f].sort.kids).drop (i + 1) = srCs (s.funs[f].sort.kids.eraseIdx i) := by
      rw [srCs_eq, srCs_eq, ← List.map_take, ← List.map_drop, ← List.map_append, erase_eq]
    rw [ee] at hs2
    have hb30 : h30 d = some (.arr 5 (fnCs (upTo f i s.funs.length s.funs))) := (hs2.same ⟨_, hb⟩).trans hb
    rw [w_idx_os hb30]
    refine ⟨rfl, by omega, hf', by rw [dlen]; exact Nat.le_refl _, ?_⟩
    simp only [w_fld_op, Int.toNat_natCast, Nat.zero_add, Nat.add_zero]
    rw [hs2.one, w_store hb30, hgf]
    refine ⟨by rw [dlen]; exact hf, by simp, ?_⟩
    let y1 : Fn := bodyF f i f s.funs[f]
    have hsp : splice (fnC y1) 1 [x2] = [S y1.name, x2, I y1.body.lab.1, I y1.body.lab.2, .rs 3 (tmCs y1.body.kids)] := rfl
    rw [hsp]
    let y2 : Fn := dropF f i f s.funs[f]
    have hy2 : fnC y2 = [S y1.name, .rs 1 (srCs (s.funs[f].sort.kids.eraseIdx i)), I y1.body.lab.1, I y1.body.lab.2, .rs 3 (tmCs y1.body.kids)] := by
      show fnC (dropF f i f s.funs[f]) = _
      unfold dropF fnC
      rw [if_pos rfl]; rfl
    have hfin : (upTo f i s.funs.length s.funs).set f y2 = (dropS s f i).funs := by
      refine List.ext_getElem (by simp [upTo, dropS]) fun g h1 h2 => ?_
      have hg : g < s.funs.length := by simpa [dropS] using h2
      rw [List.getElem_set]
      simp only [dropS, List.getElem_mapIdx]
      by_cases e : f = g
      · subst e; rw [if_pos rfl]
      · rw [if_neg e, upTo_get f i _ hg, if_pos hg]
        unfold bodyF dropF
        rw [if_neg (fun h => e h.symm)]
    refine retA_wk (Ref.aggs (.cons .refl (.cons (.frz (els' := fnCs (dropS s f i).funs) (Heap.set_same _ d _) hd (by simp [hul]) (by rw [← hfin]; simp [hul]) (fun k hk => fnCs_sz _ k (by rw [← hfin]; simpa [hul] using hk)) fun k m hk hm => ?_) .nil))) (HRef.sub fun j n hj => ?_) hq
    · rw [← hfin, ← fnCs_setF, hy2]
      rw [List.getD_eq_getElem?_getD, List.getD_eq_getElem?_getD, List.getElem?_set, List.getElem?_set]
      by_cases e : f = k
      · subst e
        simp only [if_true, dlen, hf, Option.getD_some]
        have hx : Ref (h30.set d (.arr 5 ((fnCs (upTo f i s.funs.length s.funs)).set f [S y1.name, x2, I y1.body.lab.1, I y1.body.lab.2, .rs 3 (tmCs y1.body.kids)]))) h x2 (.rs 1 (srCs (s.funs[f].sort.kids.eraseIdx i))) := by
          rcases hs2 with ⟨he, rfl, rfl⟩ | ⟨hne, id, hid, rfl, rfl⟩
          · rw [he]; exact .e0
          · have nid : id ≠ d := fun e => by subst e; rw [Heap.set_same] at hid; cases hid
            have hid0 : h id = none := by rw [Heap.set_ne nid] at hid; exact hid
            exact .frz (by rw [Heap.set_ne nid, Heap.set_same]) hid0 (Nat.le_refl _) rfl (srCs_sz _) fun i j _ _ => .refl
        exact (Refs.cons .refl (.cons hx (.cons .refl (.cons .refl (.cons .refl .nil))))).get m
      · rw [if_neg e, if_neg e]; exact .refl
    · have a1 : j ≠ d := fun e => by subst e; rw [hd] at hj; cases hj
      rw [Heap.set_ne a1, hs2.same ⟨n, by rw [Heap.set_ne a1]; exact hj⟩, Heap.set_ne a1]; exact hj
def DSt (cur : Sch) (σ : List AV) : Prop := (∃ f i : Nat, FirstI cur f i ∧ σ = [I f, I i, B true, .rs 2 (syCs cur.syms), .rs 5 (fnCs cur.funs)]) ∨ (NoIdle cur ∧ σ = [I 0, I 0, B false, .rs 2 (syCs cur.syms), .rs 5 (fnCs cur.funs)])
theorem vref23_Drop_c (s : Sch) {h : Heap} {Q : AV → Heap → Prop} (hv : SOk s → ∀ s', Iter dropStep s s' → SOk s' → Q (.tup [sm s', I 0]) h) (hn : ¬ SOk s → Q (.tup [sm ⟨[], []⟩, I 7]) h) : ACalls prog n_vref23_Drop [sm s] h Q := by
  refine vref23_Drop_call ?_
  unfold vref23_Drop sm
  simp only [w_agg, List.length_cons, List.length_nil, true_and, g_0, g_1]
  refine callS_of ?_
  rw [sm_eta]
  refine vref03_Is_c s ?_
  by_cases H : SOk s
  · rw [(schB_iff s).2 H]
    simp only [w_notA, w_brA, Bool.not_true, Bool.false_eq_true, if_false]
    refine callS_of (vref03_Copy_c s H ?_)
    simp only [sm, w_agg, List.length_cons, List.length_nil, true_and, g_0, g_1]
    refine callS_of ?_
    rw [sm_eta]
    have main : ∀ σ, DSt s σ → loopS (fun s_13 h_14 K_15 =>
         brA (g s_13 2) (callS prog n_vref23_dropped [(.agg [(g s_13 3), (g s_13 4)]), (g s_13 0), (g s_13 1)] h_14 fun r_16 h_17 =>
         aggA 2 r_16 fun c_18 =>
         callS prog n_vref23_free [(.agg [(g c_18 0), (g c_18 1)])] h_17 fun r_19 h_20 =>
         tupA r_19 0 fun x_21 =>
         tupA r_19 1 fun x_22 =>
         tupA r_19 2 fun x_23 =>
         K_15 [x_21, x_22, x_23, (g c_18 0), (g c_18 1)] h_20) (retA (.tup [(.agg [(g s_13 3), (g s_13 4)]), (I 0)]) h_14 Q)) σ h := by
      intro σ hσ
      refine loop_down (fun n σ h' => h' = h ∧ ∃ cur, SOk cur ∧ (∀ s', Iter dropStep cur s' → Iter dropStep s s') ∧ DSt cur σ ∧ n = parM cur) _ ⟨rfl, s, H, fun _ h => h, hσ, rfl⟩ ?_
      rintro n σ h' K ⟨rfl, cur, Hc, hit, hst, rfl⟩ hK
      rcases hst with ⟨f, i, hp, rfl⟩ | ⟨hno, rfl⟩
      · simp only [g_0, g_1, g_2, g_3, g_4, w_brA, if_true]
        have hil := hp.il
        unfold nPar at hil
        rw [getD_fn hp.fl] at hil
        refine callS_of ?_
        rw [sm_eta]
        refine vref23_dropped_c cur Hc hp.fl hil ?_
        have Hd := drop_ok Hc hp.fl (idleS_of hp.f1 hp.idle)
        have hless := drop_less hp.fl hil
        have hit' : ∀ s', Iter dropStep (dropS cur f i) s' → Iter dropStep s s' := fun s' hi => hit s' (.more (.inl ⟨rfl, f, i, hp, rfl⟩) hi)
        rw [show sm (dropS cur f i) = .agg [.rs 2 (syCs (dropS cur f i).syms), .rs 5 (fnCs (dropS cur f i).funs)] from rfl]
        simp only [w_agg, List.length_cons, List.length_nil, true_and, g_0, g_1]
        refine callS_of ?_
        rw [sm_eta]
        refine vref23_free_c _ Hd (fun f' i' hp' => ?_) fun hno => ?_
        · simp only [w_tup, List.length_cons, List.length_nil, List.getD_cons_zero, List.getD_cons_succ]
          exact ⟨by omega, by omega, by omega, hK _ _ _ hless ⟨rfl, _, Hd, hit', .inl ⟨f', i', hp', rfl⟩, rfl⟩⟩
        · simp only [w_tup, List.length_cons, List.length_nil, List.getD_cons_zero, List.getD_cons_succ]
          exact ⟨by omega, by omega, by omega, hK _ _ _ hless ⟨rfl, _, Hd, hit', .inr ⟨hno, rfl⟩, rfl⟩⟩
      · simp only [g_0, g_1, g_2, g_3, g_4, w_brA, Bool.false_eq_true, if_false]
        exact retA_of (hv H cur (hit cur (.done (.inr ⟨rfl, hno, rfl⟩))) Hc)
    refine vref23_free_c s H (fun f i hp => ?_) fun hno => ?_
    · simp only [w_tup, List.length_cons, List.length_nil, List.getD_cons_zero, List.getD_cons_succ]
      exact ⟨by omega, by omega, by omega, main _ (.inl ⟨f, i, hp, rfl⟩)⟩
    · simp only [w_tup, List.length_cons, List.length_nil, List.getD_cons_zero, List.getD_cons_succ]
      exact ⟨by omega, by omega, by omega, main _ (.inr ⟨hno, rfl⟩)⟩
  · have hf : schB s = false := Bool.eq_false_iff.2 fun e => H ((schB_iff s).1 e)
    rw [hf]
    simp
    exact retA_wk (Ref.tups (.cons (Ref.aggs (.cons .e0 (.cons .e0 .nil))) (.cons .refl .nil))) (HRef.refl h) (hn H)
theorem law_TrimDrop0 (hal : @Alive23) (s : Sch) {h : Heap} {Q : AV → Heap → Prop} (hq : Q (B true) h) : ACalls prog 13 [sm s] h Q := by
  have hall : callS prog n_vlaw23_alive [] h (fun r h' => retA r h' Q) := callS_of (hal (retA_of hq))
  refine vlaw23_TrimDrop_call ?_
  unfold vlaw23_TrimDrop
  simp only [sm, w_agg, List.length_cons, List.length_nil, true_and, g_0, g_1]
  refine callS_of ?_
  simp only [sm_eta]
  refine vlaw23_heavy_c s fun b => ?_
  cases b with
  | true => simp; exact hall
  | false =>
    simp only [w_brA, Bool.false_eq_true, if_false]
    refine callS_of (vref23_Drop_c s (fun H s1 hi1 H1 => ?_) fun H => ?_)
    · rw [show sm s1 = .agg [.rs 2 (syCs s1.syms), .rs 5 (fnCs s1.funs)] from rfl]
      simp only [w_tup, w_agg, List.length_cons, List.length_nil, List.getD_cons_zero, List.getD_cons_succ, true_and, g_0, g_1]
      refine ⟨by omega, by omega, ?_⟩
      simp only [sm_eta]
      refine callS_of (trim_Drop_c s (fun _ s' hi' H' => ?_) fun h => absurd H h)
      have e := hi1.unique drop_det hi'
      subst e
      rw [show sm s1 = .agg [.rs 2 (syCs s1.syms), .rs 5 (fnCs s1.funs)] from rfl]
      simp only [w_tup, w_agg, List.length_cons, List.length_nil, List.getD_cons_zero, List.getD_cons_succ, true_and, g_0, g_1]
      refine ⟨by omega, by omega, ?_⟩
      simp only [sm_eta]
      refine callS_of (is23_ok _ H' ?_)
      simp only [w_brA, if_true]
      exact hall
    · rw [show sm (⟨[], []⟩ : Sch) = .agg [.rs 2 (syCs []), .rs 5 (fnCs [])] from rfl]
      simp only [w_tup, w_agg, List.length_cons, List.length_nil, List.getD_cons_zero, List.getD_cons_succ, true_and, g_0, g_1]
      refine ⟨by omega, by omega, ?_⟩
      refine callS_of (trim_Drop_c s (fun h => absurd h H) fun _ => ?_)
      rw [show sm (⟨[], []⟩ : Sch) = .agg [.rs 2 (syCs []), .rs 5 (fnCs [])] from rfl]
      simp only [w_tup, w_agg, List.length_cons, List.length_nil, List.getD_cons_zero, List.getD_cons_succ, true_and, g_0, g_1]
      refine ⟨by omega, by omega, ?_⟩
      refine callS_of (is23_err ?_)
      simp only [w_brA, if_true]
      exact hall
end Am
