/- Fields, indexes, numbers, lengths. -/
import Derived.Test.YtoifckjdnldlpaaAE
set_option linter.unusedVariables false
set_option linter.unusedSimpArgs false
namespace Am
open Go
section
variable {P : Program} {cf : Cfg} {fz : Fz} {b : Base} {env : Env} {loc : Loc} {h : Heap} {a : Act} {w : World} {C : Cx} {β : Nat → Option Nat} {k : K} {o : Oper} {Q : Exit → Act → World → Prop}
theorem asAV_rep (H : SR b env loc h a w C β) {x : Operand} {k : AV → Prop} (hk : asAV (ev env x) k) : ∃ v, Rep w C v (a.eval x) ∧ k v := by
  obtain ⟨v, h1, h2⟩ := asAV_elim hk
  exact ⟨v, (ev_rep H x).asV h1, h2⟩
theorem op_field (HT : TabOk P cf) (H : SR b env loc h a w C β) {t : TypeId} {x : Operand} {f : Nat} (ho : o.op = .fieldAddr t x f) (hty : opTy cf o = true) (hk : aop P cf fz o env loc h k) : Oper.wp P o a w (Next b fz env loc k) Q := by
  simp only [opTy, ho] at hty
  split at hty
  case h_2 => cases hty
  rename_i hty' harr
  obtain ⟨i, z, d, F⟩ := tyCheck_f (HT.2 t hty')
  obtain ⟨fi, fz', fd, F2⟩ := tyCheck_f (HT.2 _ hty)
  have hf : f < (cf.ty t).flds.length := by
    rcases Nat.lt_or_ge f (cf.ty t).flds.length with h | h
    · exact h
    · rw [List.getD_eq_getElem?_getD, List.getElem?_eq_none h] at hty
      simp only [Option.getD_none] at hty
      rw [HT.1] at hty; cases hty
  have hx := ev_rep H x
  have hl := ev_lkey H x
  simp only [aop, ho] at hk
  split at hk
  · rename_i u off he
    rw [he] at hx
    obtain ⟨x0, h1, h2⟩ := hx
    refine wp_same H (run_field_op F hty' ho harr hf F2 hty h2) (y := .loc u _) ⟨x0, h1, rfl⟩ (fun u' o' e => by cases e; exact hl u off he) hk
  · rename_i p he
    rw [he] at hx
    have hx' : Rep w C p (a.eval x) := hx
    unfold fldA at hk
    generalize hv : a.eval x = va at hx'
    split at hk
    · cases hx' with
      | ro vs him hc hr =>
        refine wp_same H (run_field_op F hty' ho harr hf F2 hty hv) (y := .av _) ?_ av_lkey hk
        refine Rep.ro (fun j => vs (((cf.ty t).flds.getD f (0, 0)).1 + j)) him (fun j hj => ?_) (fun j hj => ?_)
        · rw [Nat.add_assoc]
          exact hc _ (by rw [List.length_drop] at hj; omega)
        · show Rep w C (g (List.drop _ _) j) _
          rw [g_drop]
          exact hr _ (by rw [List.length_drop] at hj; omega)
    · cases hx' with
      | op hm =>
        refine wp_same H (run_field_op F hty' ho harr hf F2 hty hv) (y := .av _) ?_ av_lkey hk
        rw [Nat.add_assoc]
        exact Rep.op hm
    · cases hk
  · exact (show False from hk).elim
theorem rep_int {kd : IntKind} {n : Int} {v : Value} (hv : Rep w C (.val (.int kd n)) v) : v = .int kd n := by cases hv; rfl
theorem rep_val {u v : Value} (hv : Rep w C (.val u) v) : v = u := by cases hv; rfl
theorem idxA_elim {es : Nat} {x i : AV} {k : AV → Prop} (hk : idxA es x i h k) : ∃ kd n, i = .val (.int kd n) ∧ 0 ≤ n ∧
    ((∃ els, x = .rs es els ∧ n < els.length ∧ k (.ro (els.getD n.toNat []))) ∨ ∃ id len els, x = .os id len ∧ h id = some (.arr es els) ∧ n < len ∧ len ≤ els.length ∧ k (.op id n.toNat 0)) := by
  unfold idxA at hk
  split at hk
  · rename_i kd n
    refine ⟨kd, n, rfl, ?_⟩
    split at hk
    · obtain ⟨rfl, h0, h1, h2⟩ := hk
      exact ⟨h0, .inl ⟨_, rfl, h1, h2⟩⟩
    · split at hk
      · rename_i hh
        obtain ⟨rfl, h0, h1, h2, h3⟩ := hk
        exact ⟨h0, .inr ⟨_, _, _, rfl, hh, h1, h2, h3⟩⟩
      · cases hk
    · cases hk
  · cases hk
theorem op_idx (HT : TabOk P cf) (H : SR b env loc h a w C β) {t : TypeId} {x ix : Operand} (ho : o.op = .indexAddr t x ix) (hty : opTy cf o = true) (hk : aop P cf fz o env loc h k) : Oper.wp P o a w (Next b fz env loc k) Q := by
  simp only [opTy, ho] at hty
  split at hty
  case h_2 => cases hty
  rename_i hty'
  obtain ⟨i, z, d, F⟩ := tyCheck_f (HT.2 t hty')
  obtain ⟨ei, ez, ed, F2⟩ := tyCheck_f (HT.2 _ hty)
  have hu := F.slice HT hty
  simp only [aop, ho] at hk
  obtain ⟨xv, hx, hk⟩ := asAV_rep H hk
  obtain ⟨iv, hi, hk⟩ := asAV_rep H hk
  obtain ⟨kd, n, rfl, h0, hk⟩ := idxA_elim (drK_elim hk)
  have hi' := rep_int hi
  have run : ∀ (bb off len cap : Nat), a.eval x = .slice (some ⟨bb, off, none⟩) len cap → n < len →
      (execOp a.eval o).run P w = .ok (.value (.pointer (some ⟨bb, off + n.toNat * (cf.ty (cf.ty t).elem).sz, none⟩))) w := by
    intro bb off len cap e h1
    simp only [execOp, ho, Instr.indexAt, asIntOf, hi', e, Sem.run_bind, Sem.run_pure, run_underlying hu, Result.andThen, Bool.and_false]
    simp only [h0, h1, and_self, if_true, Sem.run_bind, F2.run_sizeOf, Result.andThen, Sem.run_pure, addr_add]
  rcases hk with ⟨els, rfl, h1, hk⟩ | ⟨id, len, els, rfl, hh, h1, h2, hk⟩
  · generalize hv : a.eval x = va at hx
    cases hx with
    | rs0 => simp at h1; omega
    | rs vs him hcap hsz hc hr =>
      refine wp_same H (run _ _ _ _ hv h1) (y := .av _) ?_ av_lkey hk
      have hn : n.toNat < els.length := by omega
      refine Rep.ro (fun j => vs n.toNat j) him (fun j hj => ?_) (fun j hj => ?_)
      · exact hc _ j hn (by rw [hsz _ hn] at hj; exact hj)
      · exact hr _ j hn (by rw [hsz _ hn] at hj; exact hj)
  · generalize hv : a.eval x = va at hx
    cases hx with
    | os hm hl hn =>
      refine wp_same H (run _ _ _ _ hv h1) (y := .av _) ?_ av_lkey hk
      obtain ⟨ow, h4, h5, h6⟩ := H.ev.rel.own id _ hh
      rw [h4] at hm; cases hm
      have := Rep.op (w := w) (C := C) (ix := n.toNat) (off := 0) h4
      rw [h6.1] at this
      show Rep w C _ _
      simpa using this
theorem strA_elim {x i : AV} {k : AV → Prop} (hk : strA x i k) : ∃ s kd n, x = .val (.string s) ∧ i = .val (.int kd n) ∧ 0 ≤ n ∧ n < s.size ∧ k (.val (.int .u8 ((s.data.toList.getD n.toNat 0).toNat))) := by
  unfold strA at hk
  split at hk
  · obtain ⟨h0, h1, h2⟩ := hk
    exact ⟨_, _, _, rfl, rfl, h0, h1, h2⟩
  · cases hk
theorem op_str (HT : TabOk P cf) (H : SR b env loc h a w C β) {t : TypeId} {x ix : Operand} (ho : o.op = .index t x ix) (hty : opTy cf o = true) (hk : aop P cf fz o env loc h k) : Oper.wp P o a w (Next b fz env loc k) Q := by
  simp only [opTy, ho] at hty
  split at hty
  case h_2 => cases hty
  rename_i h1 h2
  obtain ⟨i, z, d, F⟩ := tyCheck_f (HT.2 t h1)
  have ht := F.str h2
  simp only [aop, ho] at hk
  obtain ⟨xv, hx, hk⟩ := asAV_rep H hk
  obtain ⟨iv, hi, hk⟩ := asAV_rep H hk
  obtain ⟨s, kd, n, rfl, rfl, h0, h1, hk⟩ := strA_elim hk
  have hi' := rep_int hi
  have hx' := rep_val hx
  refine wp_same H (v := .int .u8 ((s.data.toList.getD n.toNat 0).toNat)) ?_ (y := .av _) (.val rfl) av_lkey hk
  have hn : n.toNat < s.size := by omega
  have hs : s[n.toNat]? = some (s[n.toNat]'hn) := by simp [hn]
  have he : s.data.toList.getD n.toNat 0 = s[n.toNat]'hn := by
    have hn' : n.toNat < s.data.size := hn
    rw [List.getD_eq_getElem?_getD, Array.getElem?_toList, Array.getElem?_eq_getElem hn']; rfl
  simp only [execOp, ho, Instr.index, asIntOf, hi', hx', Sem.run_bind, Sem.run_pure, run_underlying ht, Result.andThen, h0, if_true, hs, he]
theorem binA_elim {op : BinOp} {x y : AV} {k : AV → Prop} (hk : binA op x y k) : ∃ v, abin op x y = some v ∧ k v := by
  unfold binA at hk
  split at hk
  · exact ⟨_, ‹_›, hk⟩
  · cases hk
theorem run_intBin {op : BinOp} {kd : IntKind} {m n : Int} {v : AV} (hv : intBin op kd m n = some v) (t : TypeId) (w : World) : ∃ u, v = .val u ∧ plain u = true ∧ (binOp op t (.int kd m) (.int kd n)).run P w = .ok u w := by
  unfold intBin at hv
  split at hv <;> first
    | (cases hv; exact ⟨_, rfl, rfl, by simp [binOp, Op.intArith, Op.intCmp, Op.intBits]⟩)
    | (split at hv
       · cases hv
       · cases hv; exact ⟨_, rfl, rfl, by simp [binOp, Op.intDiv, *]⟩)
    | (cases hv)
theorem run_strBin {op : BinOp} {m n : ByteArray} {v : AV} (hv : strBin op m n = some v) (t : TypeId) (w : World) : ∃ u, v = .val u ∧ plain u = true ∧ (binOp op t (.string m) (.string n)).run P w = .ok u w := by
  unfold strBin at hv
  split at hv
  · split at hv
    · cases hv
      refine ⟨_, rfl, rfl, ?_⟩
      have : ¬ (((m.size + n.size : Nat) : Int) > IntKind.i64.max) := by
        have : IntKind.i64.max = 9223372036854775807 := by decide
        omega
      simp only [binOp, Op.stringOp]
      rw [if_neg this]; rfl
    · cases hv
  · cases hv; exact ⟨_, rfl, rfl, by simp [binOp, Op.stringOp]⟩
  · cases hv; exact ⟨_, rfl, rfl, by simp [binOp, Op.stringOp]⟩
  · cases hv
theorem run_abin {op : BinOp} {x y v : AV} {vx vy : Value} (hv : abin op x y = some v) (hx : Rep w C x vx) (hy : Rep w C y vy) (t : TypeId) (w' : World) :
    ∃ u, v = .val u ∧ plain u = true ∧ (binOp op t vx vy).run P w' = .ok u w' ∧ ((∀ c d w'', (eqGuard op t c d vx vy).run P w'' = .ok () w'')) := by
  unfold abin at hv
  split at hv
  · split at hv
    · rename_i e; subst e
      obtain rfl := rep_val hx
      obtain rfl := rep_val hy
      obtain ⟨u, h1, h2, h3⟩ := run_intBin hv t w'
      exact ⟨u, h1, h2, h3, fun c d w'' => by unfold eqGuard; split <;> rfl⟩
    · cases hv
  · obtain rfl := rep_val hx
    obtain rfl := rep_val hy
    obtain ⟨u, h1, h2, h3⟩ := run_strBin hv t w'
    exact ⟨u, h1, h2, h3, fun c d w'' => by unfold eqGuard; split <;> rfl⟩
  · cases hv
theorem run_equal_bool {t : TypeId} (ht : P.underlying t = some .bool) (m n : Bool) (w' : World) : ∀ d, (Op.equalIn (d + 1) t (.bool m) (.bool n)).run P w' = .ok (m == n) w' := by
  intro d
  simp only [Op.equalIn, Sem.run_bind, run_underlying ht, Result.andThen, Sem.run_pure]
theorem run_bin_op {op : BinOp} {t u : TypeId} {x y : Operand} {v : Value} (ho : o.op = .binOp op t x y u) (hg : ∀ w'', (eqGuard op t x y (a.eval x) (a.eval y)).run P w'' = .ok () w'') (hr : (binOp op t (a.eval x) (a.eval y)).run P w = .ok v w) : (execOp a.eval o).run P w = .ok (.value v) w := by
  simp [execOp, ho, hg, hr]
theorem eqbA_elim {neg : Bool} {x y : AV} {k : AV → Prop} (hk : eqbA neg x y k) : ∃ m n, x = .val (.bool m) ∧ y = .val (.bool n) ∧ k (B (if neg then !(m == n) else m == n)) := by
  unfold eqbA at hk
  split at hk
  · exact ⟨_, _, rfl, rfl, hk⟩
  · cases hk
theorem notA_elim {x : AV} {k : AV → Prop} (hk : notA x k) : ∃ m, x = .val (.bool m) ∧ k (B (!m)) := by
  unfold notA at hk
  split at hk
  · exact ⟨_, rfl, hk⟩
  · cases hk
theorem tupA_elim {x : AV} {i : Nat} {k : AV → Prop} (hk : tupA x i k) : ∃ vs, x = .tup vs ∧ i < vs.length ∧ k (vs.getD i .any) := by
  unfold tupA at hk
  split at hk
  · exact ⟨_, rfl, hk⟩
  · cases hk
theorem op_bin (HT : TabOk P cf) (H : SR b env loc h a w C β) {op : BinOp} {t u : TypeId} {x y : Operand} (ho : o.op = .binOp op t x y u) (hty : opTy cf o = true) (hk : aop P cf fz o env loc h k) : Oper.wp P o a w (Next b fz env loc k) Q := by
  obtain ⟨hty', hagg⟩ : pos (cf.ty t).sz = true ∧ ((cf.ty t).agg = true → someB (cf.ty t).eq = true) := by
    simp only [opTy, ho] at hty
    have h2 : ∀ {a b : Bool}, both a b = true → a = true ∧ b = true := fun {a b} h => by cases a <;> cases b <;> simp_all [both]
    obtain ⟨g1, g2⟩ := h2 hty
    exact ⟨g1, fun e => by rw [e] at g2; exact g2⟩
  obtain ⟨i, z, d, F⟩ := tyCheck_f (HT.2 t hty')
  simp only [aop, ho] at hk
  obtain ⟨xv, hx, hk⟩ := asAV_rep H hk
  obtain ⟨yv, hy, hk⟩ := asAV_rep H hk
  have aggs : ∀ neg, op = (if neg then .neq else .eql) → (cf.ty t).agg = true → (eqA (cf.ty t).eq neg xv yv fun v => putK fz env o.dst (.av v) fun env => k env loc h) → Oper.wp P o a w (Next b fz env loc k) Q := by
    intro neg hop ha hk
    obtain ⟨g1, g2⟩ := F.eqf ha (hagg ha)
    unfold eqA at hk
    split at hk
    · rename_i xs ys
      obtain ⟨l1, l2, hk⟩ := hk
      split at hk
      · rename_i r hr
        generalize hxv : a.eval x = vx at hx
        generalize hyv : a.eval y = vy at hy
        cases hx with
        | agg vs hs h1 hrr =>
          cases hy with
          | agg us hs' h1' hrr' =>
            have hE := eqCells_v (vs := vs.toList) (us := us.toList) hr (by simpa using hs) (by simpa using hs') (fun j hj => by simpa [g, Array.getD_eq_getD_getElem?, List.getD_eq_getElem?_getD] using hrr j hj) (fun j hj => by simpa [g, Array.getD_eq_getD_getElem?, List.getD_eq_getElem?_getD] using hrr' j hj)
            have run := fun w' => run_equalIn_agg_v F ha (hagg ha) (vs := vs) (us := us) (by omega) (by omega) hE 9998 w'
            refine wp_same H (run_bin_op (v := .bool (if neg then !r else r)) ho (fun w'' => ?_) ?_) (y := .av _) (.val rfl) av_lkey hk
            · rw [hxv, hyv]; exact run_eqGuard_agg w'' op t x y vs us g2
            · rw [hxv, hyv, hop]
              cases neg with
              | true => simp only [if_true]; rw [run_neq_struct, run w]; rfl
              | false => simp only [Bool.false_eq_true, if_false]; rw [run_eql_struct, run w]; rfl
      · exact hk.elim
    · exact hk.elim
  have plainly : (binA op xv yv fun v => putK fz env o.dst (.av v) fun env => k env loc h) → Oper.wp P o a w (Next b fz env loc k) Q := by
    intro hk
    obtain ⟨v, h1, hk⟩ := binA_elim hk
    obtain ⟨u', rfl, h2, h3, h4⟩ := run_abin h1 hx hy t w
    exact wp_same H (run_bin_op ho (h4 _ _) h3) (y := .av _) (.val h2) av_lkey hk
  have bools : ∀ neg, op = (if neg then .neq else .eql) → (cf.ty t).kd = .bool → (eqbA neg xv yv fun v => putK fz env o.dst (.av v) fun env => k env loc h) → Oper.wp P o a w (Next b fz env loc k) Q := by
    intro neg hop hkd hk
    have ht := F.bool hkd
    obtain ⟨m, n, rfl, rfl, hk⟩ := eqbA_elim hk
    · have hx' := rep_val hx
      have hy' := rep_val hy
      refine wp_same H (run_bin_op (v := .bool (if neg then !(m == n) else m == n)) ho (fun w'' => ?_) ?_) (y := .av _) (.val rfl) av_lkey hk
      · rw [hx', hy', hop]; unfold eqGuard; cases neg <;> rfl
      · rw [hx', hy', hop]
        have := run_equal_bool ht m n w 9999
        cases neg with
        | true =>
          show ((do pure (.bool (!(← Op.equal t _ _)))) : Sem Value).run P w = _
          simp only [Sem.run_bind]
          rw [show Op.equal t (.bool m) (.bool n) = Op.equalIn (9999 + 1) t (.bool m) (.bool n) from rfl, this]
          rfl
        | false =>
          show ((do pure (.bool (← Op.equal t _ _))) : Sem Value).run P w = _
          simp only [Sem.run_bind]
          rw [show Op.equal t (.bool m) (.bool n) = Op.equalIn (9999 + 1) t (.bool m) (.bool n) from rfl, this]
          rfl
  split at hk
  · exact aggs false rfl (by assumption) hk
  · exact aggs true rfl (by assumption) hk
  · exact (show False from hk).elim
  · split at hk
    · exact bools false rfl (by assumption) hk
    · exact bools true rfl (by assumption) hk
    · exact (show False from hk).elim
    · exact plainly hk
theorem op_not (H : SR b env loc h a w C β) {t : TypeId} {x : Operand} (ho : o.op = .unOp .not t x) (hk : aop P cf fz o env loc h k) : Oper.wp P o a w (Next b fz env loc k) Q := by
  simp only [aop, ho] at hk
  obtain ⟨xv, hx, hk⟩ := asAV_rep H hk
  obtain ⟨m, rfl, hk⟩ := notA_elim hk
  have hx' := rep_val hx
  refine wp_same H (v := .bool (!m)) ?_ (y := .av _) (.val rfl) av_lkey hk
  simp [execOp, ho, hx', Op.unary]
theorem op_extract (H : SR b env loc h a w C β) {x : Operand} {i : Nat} (ho : o.op = .extract x i) (hk : aop P cf fz o env loc h k) : Oper.wp P o a w (Next b fz env loc k) Q := by
  simp only [aop, ho] at hk
  obtain ⟨xv, hx, hk⟩ := asAV_rep H hk
  obtain ⟨vs, rfl, h1, hk⟩ := tupA_elim hk
  · generalize hv : a.eval x = va at hx
    cases hx with
    | tup us hs hr =>
      refine wp_same H (v := us.getD i undef) ?_ (y := .av _) (hr i h1) av_lkey hk
      have : i < us.size := by omega
      simp [execOp, ho, hv, Instr.extract, this, Array.getD_eq_getD_getElem?]
theorem lenA_elim {x : AV} {k : AV → Prop} (hk : lenA x k) : (∃ sz els, x = .rs sz els ∧ k (I els.length)) ∨ (∃ id len, x = .os id len ∧ k (I len)) ∨ (x = .e0 ∧ k (I 0)) := by
  unfold lenA at hk
  split at hk
  · exact .inl ⟨_, _, rfl, hk⟩
  · exact .inr (.inl ⟨_, _, rfl, hk⟩)
  · exact .inr (.inr ⟨rfl, hk⟩)
  · cases hk
theorem lenS_elim {x : AV} {k : AV → Prop} (hk : lenS x k) : ∃ s, x = .val (.string s) ∧ k (I s.size) := by
  unfold lenS at hk
  split at hk
  · exact ⟨_, rfl, hk⟩
  · cases hk
theorem lenM_elim {x : AV} {k : AV → Prop} (hk : lenM x h k) : ∃ id es, x = .mp id ∧ h id = some (.map es) ∧ k (I es.length) := by
  unfold lenM at hk
  split at hk
  · split at hk
    · exact ⟨_, _, rfl, ‹_›, hk⟩
    · cases hk
  · cases hk
end
end Am
