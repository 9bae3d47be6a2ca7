/- Loads and stores, new variables. -/
import Derived.Test.YtoifckjdnldlpaaA6
set_option linter.unusedVariables false
set_option linter.unusedSimpArgs false
namespace Am
open Go

theorem g_drop (cs : List AV) (o j : Nat) : g (cs.drop o) j = g cs (o + j) := by simp [g, List.getD_eq_getElem?_getD]
theorem gets_eq (cs : List AV) (n : Nat) (h : n ≤ cs.length) : ∀ j, j < n → g (gets cs 0 n) j = g cs j := fun j hj => by rw [g_gets _ _ _ _ hj, Nat.zero_add]
theorem cell_at {w : World} {x : Nat} {c : Array Value} {e : TypeId} {fr : Nat × Nat} (h : w.heap[x]? = some (.cells c e fr)) (j : Nat) : w.cell? ⟨x, j, none⟩ = c[j]? := by
  simp [World.cell?, h]
/-- What a store of some cells leaves. -/
theorem run_store_f {P : Program} {t : TypeId} {ti : TyI} {i : TypeInfo} {z : Value} {d : TypeDesc} (F : TyF P t ti i z d) {w : World} {x o : Nat} {c : Array Value} {e : TypeId} (hx : w.heap[x]? = some (.cells c e (0, 0)))
    {v : Value} (hs : v.cells.size = ti.sz) (h1 : ∀ j, j < ti.sz → one (v.cells.getD j undef) = true) (hl : o + ti.sz ≤ c.size) :
    ∃ w' c', (storeVar t ⟨x, o, none⟩ v).run P w = .ok () w' ∧ w'.heap[x]? = some (.cells c' e (0, 0)) ∧ c'.size = c.size ∧
      (∀ j, c'[j]? = if o ≤ j ∧ j < o + ti.sz then some (v.cells.getD (j - o) undef) else c[j]?) ∧ (∀ b, b ≠ x → w'.heap[b]? = w.heap[b]?) ∧ w'.heap.size = w.heap.size ∧ w'.os = w.os ∧ w'.tape = w.tape ∧ w'.output = w.output := by
  have hone : ∀ u ∈ v.cells.toList, u.oneCell' = true := fun u hu => by
    obtain ⟨j, hj, rfl⟩ := List.getElem_of_mem hu
    have hj' : j < v.cells.size := by simpa using hj
    have := h1 j (by omega)
    simpa [Array.getD_eq_getD_getElem?, hj'] using this
  have hlen : v.cells.toList.length = ti.sz := by simpa using hs
  have hst := run_storeCells_at P x o e v.cells.toList 0 c w hx (by simp only [Nat.add_zero, hlen]; exact hl) hone
  simp only [Nat.add_zero, hlen] at hst
  refine ⟨_, (c.toList.take o ++ v.cells.toList ++ c.toList.drop (o + ti.sz)).toArray, ?_, setRow_heap w x c _ e (0, 0) hx, ?_, fun j => ?_, fun b hb => setRow_other w x b _ hb, setRow_size _ _ _, rfl, rfl, rfl⟩
  · simp only [storeVar, Sem.run_bind, F.run_sizeOf, Result.andThen]
    rw [if_neg (by simp [hs])]
    exact hst
  · simp; omega
  · simp only [List.getElem?_toArray]
    have ho : (c.toList.take o).length = o := by simp; omega
    by_cases hj : j < o
    · rw [if_neg (by omega), List.append_assoc, List.getElem?_append_left (by omega), List.getElem?_take, if_pos hj]
      simp
    · by_cases hj2 : j < o + ti.sz
      · rw [if_pos ⟨by omega, hj2⟩, List.getElem?_append_left (by simp; omega), List.getElem?_append_right (by omega), ho]
        have : j - o < v.cells.size := by omega
        simp [Array.getD_eq_getD_getElem?, this]
      · rw [if_neg (by omega), List.getElem?_append_right (by simp; omega)]
        simp only [List.length_append, ho, hlen, List.getElem?_drop]
        have : o + ti.sz + (j - (o + ti.sz)) = j := by omega
        rw [this]; simp

section
variable {P : Program} {cf : Cfg} {fz : Fz} {b : Base} {env : Env} {loc : Loc} {h : Heap} {a : Act} {w : World} {C : Cx} {β : Nat → Option Nat} {k : K} {o : Oper} {Q : Exit → Act → World → Prop}
theorem LRel.cells {x : Nat} {cs : List AV} (H : LRel w C x cs) (off : Nat) : ∃ vs : Nat → Value, (∀ j, j < (cs.drop off).length → w.cell? ⟨x, off + j, none⟩ = some (vs j) ∧ one (vs j) = true) ∧
    ∀ j, j < (cs.drop off).length → Rep w C (g (cs.drop off) j) (vs j) := by
  obtain ⟨c, e, h1, h2, h3⟩ := H
  refine ⟨fun j => c.getD (off + j) undef, fun j hj => ?_, fun j hj => ?_⟩ <;> (
    have hj' : off + j < cs.length := by simp at hj; omega
    obtain ⟨v, h4, h5, h6⟩ := h3 _ hj'
    have : c.getD (off + j) undef = v := by simp [Array.getD_eq_getD_getElem?, h4])
  · dsimp only; rw [cell_at h1, h4, this]; exact ⟨rfl, h5⟩
  · dsimp only; rw [this, g_drop]; exact h6
theorem run_load_op {t : TypeId} {x : Operand} {ad : Addr} {v : Value} (ho : o.op = .load t x) (hx : a.eval x = .pointer (some ad)) (hr : (loadVar t ad).run P w = .ok v w) : (execOp a.eval o).run P w = .ok (.value v) w := by
  simp [execOp, ho, Instr.loadAt, Instr.sureAddr, hx, hr]
theorem ARel.cells {ow : Own} {z : Nat} {els : List (List AV)} (H : ARel w C ow z els) (ix off : Nat) (hi : ix < els.length) :
    ∃ vs : Nat → Value, (∀ j, j < ((els.getD ix []).drop off).length → w.cell? ⟨ow.blk, ix * ow.sz + off + j, none⟩ = some (vs j) ∧ one (vs j) = true) ∧
      ∀ j, j < ((els.getD ix []).drop off).length → Rep w C (g ((els.getD ix []).drop off) j) (vs j) := by
  obtain ⟨h1, h2, h3, c, e, h4, h5, h6⟩ := H
  refine ⟨fun j => c.getD (ix * z + off + j) undef, fun j hj => ?_, fun j hj => ?_⟩ <;> (
    have hj' : off + j < z := by rw [List.length_drop, h2 ix hi] at hj; omega
    obtain ⟨v, h7, h8, h9⟩ := h6 ix (off + j) hi hj'
    rw [← Nat.add_assoc] at h7
    have : c.getD (ix * z + off + j) undef = v := by simp [Array.getD_eq_getD_getElem?, h7])
  · dsimp only; rw [cell_at h4, h1, h7, this]; exact ⟨rfl, h8⟩
  · dsimp only; rw [this, g_drop]; exact h9
theorem op_load (HT : TabOk P cf) (H : SR b env loc h a w C β) {t : TypeId} {x : Operand} (ho : o.op = .load t x) (hty : opTy cf o = true) (hk : aop P cf fz o env loc h k) : Oper.wp P o a w (Next b fz env loc k) Q := by
  have hty' : pos (cf.ty t).sz = true := by simpa [opTy, ho] using hty
  obtain ⟨i, z, d, F⟩ := tyCheck_f (HT.2 t hty')
  have hx := ev_rep H x
  simp only [aop, ho] at hk
  have hpos : 0 < (cf.ty t).sz := by cases hs : (cf.ty t).sz with | zero => rw [hs] at hty'; cases hty' | succ n => omega
  split at hk
  · rename_i u off he
    rw [he] at hx
    obtain ⟨x0, h1, h2⟩ := hx
    split at hk
    · rename_i cs hcs
      obtain ⟨x1, h3, h4, h5, h6, h7⟩ := H.vars u cs hcs
      rw [h1] at h3; cases h3
      obtain ⟨vs, h8, h9⟩ := h7.cells off
      split at hk
      · rename_i ha
        obtain ⟨h10, h11⟩ := takeK_elim hk
        obtain ⟨v, h12, h13, _⟩ := run_loadVar_f F vs h10 h8 h9
        exact wp_same H (run_load_op ho h2 h12) (y := .ag _) (h13 ha).2 (fun _ _ h => by cases h) h11
      · rename_i ha
        obtain ⟨h10, h11⟩ := takeK_elim hk
        obtain ⟨v, h12, _, h13⟩ := run_loadVar_f F vs (by rw [F.sz1 ha]; exact h10) h8 h9
        have hg : g ((cs.drop off).take 1) 0 = g (cs.drop off) 0 := by simp [g, List.getD_eq_getElem?_getD, List.getElem?_take]
        rw [hg] at h11
        exact wp_same H (run_load_op ho h2 h12) (y := .av _) (h13 ha) av_lkey h11
    · exact (show False from hk).elim
  · rename_i p he
    rw [he] at hx
    have hx' : Rep w C p (a.eval x) := hx
    replace hk := drK_elim hk
    split at hk
    · rename_i ha
      unfold loadG at hk
      split at hk
      · rename_i cs
        obtain ⟨h1, h2⟩ := hk
        generalize hv : a.eval x = va at hx'
        cases hx' with
        | ro vs him hc hr =>
          obtain ⟨v, h12, h13, _⟩ := run_loadVar_f F vs h1 hc hr
          exact wp_same H (run_load_op ho hv h12) (y := .ag _) (h13 ha).1 (fun _ _ h => by cases h) h2
      · rename_i id ix off
        split at hk
        · rename_i z els hh
          obtain ⟨h1, h2, h3⟩ := hk
          obtain ⟨ow, h4, h5, h6⟩ := H.ev.rel.own id _ hh
          generalize hv : a.eval x = va at hx'
          cases hx' with
          | op hm =>
            rw [h4] at hm; cases hm
            obtain ⟨vs, h8, h9⟩ := ARel.cells h6 ix off h1
            obtain ⟨v, h12, h13, _⟩ := run_loadVar_f F vs (by rw [List.length_drop, h6.2.1 ix h1]; omega) h8 h9
            exact wp_same H (run_load_op ho hv h12) (y := .ag _) (h13 ha).1 (fun _ _ h => by cases h) h3
        · cases hk
      · cases hk
    · rename_i ha
      unfold loadV at hk
      split at hk
      · rename_i cs
        obtain ⟨h1, h2⟩ := hk
        generalize hv : a.eval x = va at hx'
        cases hx' with
        | ro vs him hc hr =>
          obtain ⟨v, h12, _, h13⟩ := run_loadVar_f F vs (by rw [F.sz1 ha]; omega) hc hr
          exact wp_same H (run_load_op ho hv h12) (y := .av _) (h13 ha) av_lkey h2
      · rename_i id ix off
        split at hk
        · rename_i z els hh
          obtain ⟨h1, h2, h3⟩ := hk
          obtain ⟨ow, h4, h5, h6⟩ := H.ev.rel.own id _ hh
          generalize hv : a.eval x = va at hx'
          cases hx' with
          | op hm =>
            rw [h4] at hm; cases hm
            obtain ⟨vs, h8, h9⟩ := ARel.cells h6 ix off h1
            obtain ⟨v, h12, _, h13⟩ := run_loadVar_f F vs (by rw [List.length_drop, h6.2.1 ix h1, F.sz1 ha]; omega) h8 h9
            have := h13 ha
            rw [g_drop, Nat.add_zero] at this
            exact wp_same H (run_load_op ho hv h12) (y := .av _) this av_lkey h3
        · cases hk
      · cases hk
  · exact (show False from hk).elim
theorem run_store_op {t : TypeId} {x v : Operand} {ad : Addr} {w' : World} (ho : o.op = .store t x v) (hx : a.eval x = .pointer (some ad)) (hr : (storeVar t ad (a.eval v)).run P w = .ok () w') : (execOp a.eval o).run P w = .ok .skip w' := by
  simp [execOp, ho, Instr.storeAt, Instr.sureAddr, hx, hr]
/-- A store into a variable of this call. -/
theorem SR.setVar (H : SR b env loc h a w C β) {u x : Nat} {ds ds' : List AV} (hu : lkp loc u = some ds) (hx : β u = some x) {w' : World}
    (hw : ∀ b, b ≠ x → w'.heap[b]? = w.heap[b]?) (hs : w'.heap.size = w.heap.size) (hos : w'.os = w.os) (ht : w'.tape = w.tape) (hout : w'.output = w.output)
    (hN : (∀ y v, Rep w C y v → Rep w' C y v) → LRel w' C x ds') : SR b env (lset loc u ds') h a w' C β := by
  obtain ⟨x', h1, h2, h3, h4, h5⟩ := H.vars u ds hu
  rw [hx] at h1; cases h1
  have hrep : ∀ y v, Rep w C y v → Rep w' C y v := fun y v hr => hr.mono (fun _ _ h => h) fun b hb => ⟨hb, hw b (fun e => h3 (e ▸ hb))⟩
  have hE : Ev w C h w' C h → Ev b.w b.C b.h w' C h := fun E => H.ev.trans E
  refine ⟨H.dfr, H.len, fun t ht => (H.tmp t ht).mono hrep fun _ _ _ => rfl, fun t v off he => ?_, ?_, fun t cs hcs => ?_, fun t t' cs cs' y h6 h7 h8 h9 => ?_⟩
  · have := H.lkey t v off he
    rw [lkp_lset]; split <;> simp_all
  · have E0 := H.ev
    refine ⟨E0.mu, E0.im, E0.im', E0.live', fun y hy hl => ?_, by rw [hs]; exact E0.size, hos.trans E0.os, ht.trans E0.tape, hout.trans E0.output, ⟨E0.rel.inj, fun id n hn => ?_, fun y hy => ?_, E0.rel.fresh⟩⟩
    · rw [hw y (fun e => by omega), E0.frame y hy hl]
    · obtain ⟨o, h6, h7, h8⟩ := E0.rel.own id n hn
      exact ⟨o, h6, h7, h8.mono hrep (hw _ fun e => h4 ⟨id, n, o, hn, h6, e⟩)⟩
    · rw [hs]; exact E0.rel.imlt y hy
  · rw [lkp_lset] at hcs
    split at hcs
    · rename_i e; subst e; cases hcs
      exact ⟨x, hx, h2, h3, h4, hN hrep⟩
    · rename_i e
      obtain ⟨y, h6, h7, h8, h9, h10⟩ := H.vars t cs hcs
      refine ⟨y, h6, h7, h8, h9, h10.mono hrep (hw y fun e' => ?_)⟩
      subst e'; exact e (H.linj u t ds cs y hu hcs hx h6)
  · rw [lkp_lset] at h6 h7
    have k1 : ∃ c, lkp loc t = some c := by split at h6 <;> simp_all
    have k2 : ∃ c, lkp loc t' = some c := by split at h7 <;> simp_all
    obtain ⟨c1, k1⟩ := k1
    obtain ⟨c2, k2⟩ := k2
    exact H.linj t t' c1 c2 y k1 k2 h8 h9
theorem op_store (HT : TabOk P cf) (H : SR b env loc h a w C β) {t : TypeId} {x v : Operand} (ho : o.op = .store t x v) (hty : opTy cf o = true) (hk : aop P cf fz o env loc h k) : Oper.wp P o a w (Next b fz env loc k) Q := by
  have hty' : pos (cf.ty t).sz = true := by simpa [opTy, ho] using hty
  obtain ⟨i, z, d, F⟩ := tyCheck_f (HT.2 t hty')
  have hx := ev_rep H x
  have hv := ev_rep H v
  simp only [aop, ho] at hk
  obtain ⟨cs, hcl, hk, hcs, hcr⟩ := cellsK_elim hk F.sz1 hv
  split at hk
  · rename_i u off he
    rw [he] at hx
    obtain ⟨x0, h1, h2⟩ := hx
    split at hk
    · exact (show False from hk).elim
    · rename_i hfz
      split at hk
      · rename_i ds hds
        obtain ⟨h3, h4⟩ := takeK_elim hk
        rw [spliceK_eq, lsetK_eq] at h4
        obtain ⟨x1, h5, h6, h7, h8, c, e, h9, h10, h11⟩ := H.vars u ds hds
        rw [h1] at h5; cases h5
        have hlen : off + (cf.ty t).sz ≤ ds.length ∨ (cf.ty t).sz = 0 := by simp at h3; omega
        have hlen : off + (cf.ty t).sz ≤ ds.length := by
          rcases hlen with h | h
          · exact h
          · rw [h] at hty'; cases hty'
        obtain ⟨w', c', r1, r2, r3, r4, r5, r6, r7, r8, r9⟩ := run_store_f F h9 hcs (fun j hj => (hcr j hj).1) (by rw [h10]; exact hlen)
        have H' := H.setVar hds h1 r5 r6 r7 r8 r9 (ds' := splice ds off cs) fun hrep => by
          refine ⟨c', e, r2, by rw [r3, h10, splice_length], fun j hj => ?_⟩
          rw [splice_length] at hj
          rw [r4, g_splice _ _ _ _ (by rw [hcl]; exact hlen), hcl]
          by_cases hb : off ≤ j ∧ j < off + (cf.ty t).sz
          · rw [if_pos hb, if_pos hb]
            exact ⟨_, rfl, (hcr _ (by omega)).1, hrep _ _ (hcr _ (by omega)).2⟩
          · rw [if_neg hb, if_neg hb]
            obtain ⟨y, q1, q2, q3⟩ := h11 j hj
            exact ⟨y, q1, q2, hrep _ _ q3⟩
        unfold Oper.wp
        rw [run_store_op ho h2 r1]
        obtain ⟨env', H2, K2, hk2⟩ := H'.put (y := .dead) (v := undef) (dst := o.dst) (fz := fz) trivial (fun _ _ h => by cases h) h4
        refine ⟨env', _, h, C, β, H2, ⟨K2.len, K2.env, fun t' ht' => ?_, fun t' ht' => ?_, fun t' cs' _ hcs' => ?_⟩, hk2⟩
        · rw [lkp_lset, if_neg (fun e => by subst e; rw [(nmem_eq fz.l u).2 ht'] at hfz; cases hfz)]
        · rw [lkp_lset]; split <;> simp_all
        · rw [lkp_lset]
          split
          · rename_i e; subst e
            rw [hds] at hcs'; cases hcs'
            exact ⟨_, rfl, splice_length _ _ _⟩
          · exact ⟨cs', hcs', rfl⟩
      · exact (show False from hk).elim
  · rename_i p he
    rw [he] at hx
    have hx' : Rep w C p (a.eval x) := hx
    unfold storeG at hk
    split at hk
    · rename_i id ix off
      split at hk
      · rename_i zz els hh
        obtain ⟨h1, h2, h3⟩ := hk
        obtain ⟨ow, h4, h5, h6, h7, h8, c, e, h9, h10, h11⟩ := H.ev.rel.own id _ hh
        generalize hva : a.eval x = va at hx'
        cases hx' with
        | op hm =>
          rw [h4] at hm; cases hm
          subst h6
          have hfit : ix * ow.sz + off + (cf.ty t).sz ≤ c.size := by
            have : (ix + 1) * ow.sz ≤ els.length * ow.sz := Nat.mul_le_mul_right _ h1
            rw [Nat.add_mul, Nat.one_mul] at this
            omega
          obtain ⟨w', c', r1, r2, r3, r4, r5, r6, r7, r8, r9⟩ := run_store_f F h9 hcs (fun j hj => (hcr j hj).1) hfit
          have E := Ev.setOwn H.ev.rel hh h4 r5 r6 r7 r8 r9 (nd' := .arr ow.sz (els.set ix (splice (els.getD ix []) off cs))) fun hrep => by
            refine ⟨rfl, fun i hi => ?_, by simpa using h8, c', e, r2, by rw [r3, h10], fun i j hi hj => ?_⟩
            · simp only [List.length_set] at hi
              by_cases hix : i = ix
              · subst hix; simp [List.getD_eq_getElem?_getD, List.getElem?_set_self hi, splice_length]; have := h7 i hi; simpa [List.getD_eq_getElem?_getD] using this
              · have := h7 i hi
                simpa [List.getD_eq_getElem?_getD, List.getElem?_set_ne (Ne.symm hix)] using this
            · simp only [List.length_set] at hi
              rw [r4]
              obtain ⟨y, q1, q2, q3⟩ := h11 i j hi hj
              by_cases hix : i = ix
              · subst hix
                have e1 : (els.set i (splice (els.getD i []) off cs)).getD i [] = splice (els.getD i []) off cs := by simp [List.getD_eq_getElem?_getD, List.getElem?_set_self hi]
                rw [e1]
                have e2 := g_splice cs (els.getD i []) off j (by rw [h7 i hi]; omega)
                show ∃ v, _ ∧ _ ∧ Rep w' C (g (splice (els.getD i []) off cs) j) v
                rw [e2, hcl]
                by_cases hb : off ≤ j ∧ j < off + (cf.ty t).sz
                · rw [if_pos hb, if_pos (by omega)]
                  have : i * ow.sz + j - (i * ow.sz + off) = j - off := by omega
                  rw [this]
                  exact ⟨_, rfl, (hcr _ (by omega)).1, hrep _ _ (hcr _ (by omega)).2⟩
                · rw [if_neg hb, if_neg (by omega)]
                  exact ⟨y, q1, q2, hrep _ _ q3⟩
              · have e1 : (els.set ix (splice (els.getD ix []) off cs)).getD i [] = els.getD i [] := by simp [List.getD_eq_getElem?_getD, List.getElem?_set_ne (Ne.symm hix)]
                rw [e1, if_neg ?_]
                · exact ⟨y, q1, q2, hrep _ _ q3⟩
                · rintro ⟨b1, b2⟩
                  rcases Nat.lt_or_gt_of_ne hix with hlt | hlt
                  · have : (i + 1) * ow.sz ≤ ix * ow.sz := Nat.mul_le_mul_right _ hlt
                    rw [Nat.add_mul, Nat.one_mul] at this
                    omega
                  · have : (ix + 1) * ow.sz ≤ i * ow.sz := Nat.mul_le_mul_right _ hlt
                    rw [Nat.add_mul, Nat.one_mul] at this
                    omega
          unfold Oper.wp
          rw [run_store_op ho hva r1]
          obtain ⟨env', H2, K2, hk2⟩ := (H.step E).put (y := .dead) (v := undef) (dst := o.dst) (fz := fz) trivial (fun _ _ h => by cases h) h3
          exact ⟨env', loc, _, C, β, H2, K2, hk2⟩
      · cases hk
    · cases hk
  · exact (show False from hk).elim
end
end Am
