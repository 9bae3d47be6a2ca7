/- Cuts of slices and strings. -/
import Derived.Test.YtoifckjdnldlpaaB4
set_option linter.unusedVariables false
set_option linter.unusedSimpArgs false
namespace Am
open Go
section
variable {P : Program} {cf : Cfg} {fz : Fz} {b : Base} {env : Env} {loc : Loc} {h : Heap} {a : Act} {w : World} {C : Cx} {β : Nat → Option Nat} {k : K} {o : Oper} {Q : Exit → Act → World → Prop}
theorem run_bound {kd : IntKind} {n : Int} {y : Nat} {code : BoundsCode} (h0 : 0 ≤ n) (h1 : n ≤ y) (w : World) : (Instr.sliceBound (.int kd n) y code).run P w = .ok n.toNat w := by
  simp only [Instr.sliceBound, asIntOf, Sem.run_bind, Sem.run_pure, Result.andThen]
  rw [if_pos ⟨h0, h1⟩]; rfl
/-- A cut of an immutable slice. -/
theorem rep_cut {sz : Nat} {els : List (List AV)} {ao : Option Addr} {len cap : Nat} (hv : Rep w C (.rs sz els) (.slice ao len cap)) (lo hi : Nat) (h1 : lo ≤ hi) (h2 : hi ≤ els.length) :
    len = els.length ∧ len ≤ cap ∨ (els = [] ∧ len = 0) := by
  cases hv with
  | rs0 => exact .inr ⟨rfl, rfl⟩
  | rs vs him hcap hsz hc hr => exact .inl ⟨rfl, hcap⟩
theorem rep_len {sz : Nat} {els : List (List AV)} {ao : Option Addr} {len cap : Nat} (hv : Rep w C (.rs sz els) (.slice ao len cap)) : len = els.length := by
  cases hv <;> rfl
theorem take_drop_get (els : List (List AV)) (lo hi i : Nat) (h : i < hi - lo) : ((els.take hi).drop lo).getD i [] = els.getD (lo + i) [] := by
  simp only [List.getD_eq_getElem?_getD, List.getElem?_drop, List.getElem?_take]
  rw [if_pos (by omega)]
theorem rep_sub {sz : Nat} {els : List (List AV)} {ao : Option Addr} {len cap : Nat} (hv : Rep w C (.rs sz els) (.slice ao len cap)) (lo hi : Nat) (h1 : lo ≤ hi) (h2 : hi ≤ els.length) :
    Rep w C (.rs sz ((els.take hi).drop lo)) (.slice (if cap = lo then ao else ao.map (·.add (lo * sz))) (hi - lo) (cap - lo)) := by
  by_cases he : hi - lo = 0
  · have : (els.take hi).drop lo = [] := List.eq_nil_of_length_eq_zero (by simp; omega)
    rw [this, he]; exact .rs0
  · cases hv with
    | rs0 => simp at h2; omega
    | rs vs him hcap hsz hc hr =>
      rw [if_neg (by omega)]
      rename_i bb off
      have hl : ((els.take hi).drop lo).length = hi - lo := by simp; omega
      simp only [Option.map_some, addr_add]
      rw [← hl]
      refine Rep.rs (fun i j => vs (lo + i) j) him (by rw [hl]; omega) (fun i hi' => ?_) (fun i j hi' hj => ?_) (fun i j hi' hj => ?_)
      · rw [hl] at hi'; rw [take_drop_get _ _ _ _ hi']; exact hsz _ (by omega)
      · rw [hl] at hi'
        have : off + lo * sz + i * sz + j = off + (lo + i) * sz + j := by rw [Nat.add_mul]; omega
        rw [this]; exact hc _ j (by omega) hj
      · rw [hl] at hi'; rw [take_drop_get _ _ _ _ hi']; exact hr _ j (by omega) hj
theorem optK_elim (H : SR b env loc h a w C β) {x : Option Operand} {k : Option AV → Prop} (hk : optK (ev env) x k) : (x = none ∧ k none) ∨ ∃ y v, x = some y ∧ Rep w C v (a.eval y) ∧ k (some v) := by
  cases x with
  | none => exact .inl ⟨rfl, hk⟩
  | some y =>
    obtain ⟨v, h1, h2⟩ := asAV_rep H hk
    exact .inr ⟨y, v, rfl, h1, h2⟩
/-- What a cut asks, told by its two ends. -/
theorem sliceA_elim {es : Nat} {x : AV} {lo hi : Option AV} {k : AV → Prop} (hk : sliceA es x lo hi k) :
    (lo = none ∧ (∃ kd m, hi = some (.val (.int kd m)) ∧ 0 ≤ m ∧
      ((∃ els, 0 < es ∧ x = .rs es els ∧ m ≤ els.length ∧ k (.rs es (els.take m.toNat))) ∨ (∃ id len, 0 < es ∧ x = .os id len ∧ m ≤ len ∧ k (.os id m.toNat)) ∨ (0 < es ∧ x = .e0 ∧ m = 0 ∧ k .e0) ∨
        (∃ s, es = 0 ∧ x = .val (.string s) ∧ m ≤ s.size ∧ k (S (s.extract 0 m.toNat)))))) ∨
    (hi = none ∧ (∃ kd l, lo = some (.val (.int kd l)) ∧ 0 ≤ l ∧
      ((∃ els, 0 < es ∧ x = .rs es els ∧ l ≤ els.length ∧ k (.rs es (els.drop l.toNat))) ∨ (0 < es ∧ x = .e0 ∧ l = 0 ∧ k .e0) ∨ (∃ s, es = 0 ∧ x = .val (.string s) ∧ l ≤ s.size ∧ k (S (s.extract l.toNat s.size)))))) ∨
    (∃ kd l kd' m, lo = some (.val (.int kd l)) ∧ hi = some (.val (.int kd' m)) ∧ 0 ≤ l ∧ l ≤ m ∧
      ((∃ els, 0 < es ∧ x = .rs es els ∧ m ≤ els.length ∧ k (.rs es ((els.take m.toNat).drop l.toNat))) ∨ (∃ s, es = 0 ∧ x = .val (.string s) ∧ m ≤ s.size ∧ k (S (s.extract l.toNat m.toNat))))) := by
  unfold sliceA at hk
  split at hk
  · obtain ⟨rfl, he, hk⟩ := hk
    split at hk
    · obtain ⟨h1, h2, h3⟩ := hk
      exact .inl ⟨rfl, _, _, rfl, h1, .inl ⟨_, he, rfl, h2, h3⟩⟩
    · obtain ⟨h1, h2, h3⟩ := hk
      exact .inr (.inl ⟨rfl, _, _, rfl, h1, .inl ⟨_, he, rfl, h2, h3⟩⟩)
    · obtain ⟨h1, h2, h3, h4⟩ := hk
      exact .inr (.inr ⟨_, _, _, _, rfl, rfl, h1, h2, .inl ⟨_, he, rfl, h3, h4⟩⟩)
    · cases hk
  · obtain ⟨he, hk⟩ := hk
    split at hk
    · obtain ⟨h1, h2, h3⟩ := hk
      exact .inl ⟨rfl, _, _, rfl, h1, .inr (.inl ⟨_, _, he, rfl, h2, h3⟩)⟩
    · cases hk
  · split at hk
    · obtain ⟨h1, rfl, h3⟩ := hk
      exact .inl ⟨rfl, _, _, rfl, Int.le_refl _, .inr (.inr (.inl ⟨h1, rfl, rfl, h3⟩))⟩
    · obtain ⟨h1, rfl, h3⟩ := hk
      exact .inr (.inl ⟨rfl, _, _, rfl, Int.le_refl _, .inr (.inl ⟨h1, rfl, rfl, h3⟩)⟩)
    · cases hk
  · obtain ⟨he, hk⟩ := hk
    split at hk
    · obtain ⟨h1, h2, h3⟩ := hk
      exact .inl ⟨rfl, _, _, rfl, h1, .inr (.inr (.inr ⟨_, he, rfl, h2, h3⟩))⟩
    · obtain ⟨h1, h2, h3⟩ := hk
      exact .inr (.inl ⟨rfl, _, _, rfl, h1, .inr (.inr ⟨_, he, rfl, h2, h3⟩)⟩)
    · obtain ⟨h1, h2, h3, h4⟩ := hk
      exact .inr (.inr ⟨_, _, _, _, rfl, rfl, h1, h2, .inr ⟨_, he, rfl, h3, h4⟩⟩)
    · cases hk
  · cases hk
theorem rep_slice {es : Nat} {els : List (List AV)} {v : Value} (hv : Rep w C (.rs es els) v) : ∃ ao cap, v = .slice ao els.length cap := by
  cases hv <;> exact ⟨_, _, rfl⟩
theorem rep_cap {es : Nat} {els : List (List AV)} {ao : Option Addr} {len cap : Nat} (hv : Rep w C (.rs es els) (.slice ao len cap)) : len = els.length ∧ len ≤ cap := by
  cases hv with
  | rs0 => exact ⟨rfl, Nat.zero_le _⟩
  | rs vs him hcap hsz hc hr => exact ⟨rfl, hcap⟩
theorem rep_sub3 {sz : Nat} {els : List (List AV)} {ao : Option Addr} {len cap : Nat} (hv : Rep w C (.rs sz els) (.slice ao len cap)) (hi mx : Nat) (h1 : hi ≤ mx) (h2 : mx ≤ els.length) :
    Rep w C (.rs sz (els.take hi)) (.slice (if mx = 0 then ao else ao.map (·.add (0 * sz))) (hi - 0) (mx - 0)) := by
  by_cases he : hi = 0
  · subst he; rw [List.take_zero]; exact .rs0
  · cases hv with
    | rs0 => simp at h2; omega
    | rs vs him hcap hsz hc hr =>
      rw [if_neg (by omega)]
      rename_i bb off
      have hl : (els.take hi).length = hi := by simp; omega
      simp only [Option.map_some, addr_add, Nat.zero_mul, Nat.add_zero, Nat.sub_zero]
      rw [show (Value.slice (some ⟨bb, off, none⟩) hi mx) = .slice (some ⟨bb, off, none⟩) (els.take hi).length mx from by rw [hl]]
      have hg : ∀ i, i < hi → (els.take hi).getD i [] = els.getD i [] := fun i h => by simp [List.getD_eq_getElem?_getD, List.getElem?_take, h]
      refine Rep.rs vs him (by rw [hl]; omega) (fun i hi' => ?_) (fun i j hi' hj => hc i j (by omega) hj) (fun i j hi' hj => ?_)
      · rw [hl] at hi'; rw [hg i hi']; exact hsz _ (by omega)
      · rw [hl] at hi'; rw [hg i hi']; exact hr _ j (by omega) hj
theorem sl3A_elim {es : Nat} {x hi mx : AV} {k : AV → Prop} (hk : sl3A es x hi mx k) : ∃ els kd bb kd' cc, x = .rs es els ∧ hi = .val (.int kd bb) ∧ mx = .val (.int kd' cc) ∧ 0 < es ∧ 0 ≤ bb ∧ bb ≤ cc ∧ cc ≤ els.length ∧ k (.rs es (els.take bb.toNat)) := by
  unfold sl3A at hk
  split at hk
  · obtain ⟨rfl, hk⟩ := hk; exact ⟨_, _, _, _, _, rfl, rfl, rfl, hk⟩
  · cases hk
theorem op_slice (HT : TabOk P cf) (H : SR b env loc h a w C β) {t : TypeId} {x : Operand} {lo hi mx : Option Operand} (ho : o.op = .slice t x lo hi mx) (hty : opTy cf o = true) (hk : aop P cf fz o env loc h k) : Oper.wp P o a w (Next b fz env loc k) Q := by
  simp only [opTy, ho] at hty
  have hty2 : pos (cf.ty t).sz = true ∧ ((cf.ty (cf.ty t).elem).sz = 0 → (cf.ty t).kd = .str) := by
    split at hty
    · refine ⟨by assumption, fun h0 => ?_⟩
      rw [h0] at hty
      simp only at hty
      split at hty
      · assumption
      · cases hty
    · cases hty
  obtain ⟨i, z, d, F⟩ := tyCheck_f (HT.2 t hty2.1)
  simp only [aop, ho] at hk
  have tab0 : 0 < (cf.ty (cf.ty t).elem).sz → ∃ ie ze de, TyF P (cf.ty t).elem (cf.ty (cf.ty t).elem) ie ze de ∧ P.underlying t = some (.slice (cf.ty t).elem) := by
    intro hpos
    have hp2 : pos (cf.ty (cf.ty t).elem).sz = true := by cases hs : (cf.ty (cf.ty t).elem).sz with | zero => omega | succ n => rfl
    obtain ⟨ie, ze, de, FE⟩ := tyCheck_f (HT.2 _ hp2)
    exact ⟨ie, ze, de, FE, F.slice HT hp2⟩
  split at hk
  case h_2 mx =>
    split at hk
    · rename_i hi
      obtain ⟨xv, hx, hk⟩ := asAV_rep H hk
      obtain ⟨hv, hhi, hk⟩ := asAV_rep H hk
      obtain ⟨mv, hmx, hk⟩ := asAV_rep H hk
      obtain ⟨els, kd, bb, kd', cc, rfl, rfl, rfl, hes, h0, h1, h2, hk⟩ := sl3A_elim hk
      have eb := rep_int hhi
      have em := rep_int hmx
      obtain ⟨ao, cap, hv⟩ := rep_slice hx
      rw [hv] at hx
      obtain ⟨_, hcap⟩ := rep_cap hx
      obtain ⟨ie, ze, de, FE, hu⟩ := tab0 hes
      have hsub := rep_sub3 hx bb.toNat cc.toNat (by omega) (by omega)
      refine wp_same H (v := .slice (if cc.toNat = 0 then ao else ao.map (·.add (0 * (cf.ty (cf.ty t).elem).sz))) (bb.toNat - 0) (cc.toNat - 0)) ?_ (y := .av _) hsub av_lkey hk
      have r1 : (Instr.sliceBound (.int kd' cc) cap .slice3Acap).run P w = .ok cc.toNat w := run_bound (by omega) (by omega) w
      have r2 : (Instr.sliceBound (.int kd bb) cc.toNat .slice3B).run P w = .ok bb.toNat w := run_bound (by omega) (by omega) w
      simp only [execOp, ho, Instr.sliceAt, Sem.run_bind, run_underlying hu, Result.andThen, hv, Instr.slice, Instr.sliceBounds, Option.map_none, Option.map_some, Sem.run_pure, eb, em, if_true, r1, r2, FE.run_sizeOf]
    · exact (show False from hk).elim
  obtain ⟨xv, hx, hk0⟩ := asAV_rep H hk
  clear hk
  have tab : 0 < (cf.ty (cf.ty t).elem).sz → ∃ ie ze de, TyF P (cf.ty t).elem (cf.ty (cf.ty t).elem) ie ze de ∧ P.underlying t = some (.slice (cf.ty t).elem) := by
    intro hpos
    have hp2 : pos (cf.ty (cf.ty t).elem).sz = true := by cases hs : (cf.ty (cf.ty t).elem).sz with | zero => omega | succ n => rfl
    obtain ⟨ie, ze, de, FE⟩ := tyCheck_f (HT.2 _ hp2)
    exact ⟨ie, ze, de, FE, F.slice HT hp2⟩
  have strs : ∀ s, Rep w C (.val (.string s)) (a.eval x) → (cf.ty (cf.ty t).elem).sz = 0 → P.underlying t = some .string := by
    intro s _ h0
    exact F.str (hty2.2 h0)
  rcases optK_elim H hk0 with ⟨hlo, hk1⟩ | ⟨ly, lv, hlo, hlr, hk1⟩ <;> clear hk0 <;> subst hlo
  · rcases optK_elim H hk1 with ⟨hhi, hk⟩ | ⟨my, mv, hhi, hmr, hk⟩ <;> clear hk1 <;> subst hhi
    · rcases sliceA_elim hk with ⟨_, kd, m, h1, _⟩ | ⟨_, kd, m, h1, _⟩ | ⟨kd, l, kd', m, h1, h2, _⟩ <;> cases h1
    · rcases sliceA_elim hk with ⟨_, kd, m, h1, h0, hq⟩ | ⟨h1, _⟩ | ⟨kd, l, kd', m, h1, h2, _⟩
      · cases h1
        have hm := rep_int hmr
        have run : 0 < (cf.ty (cf.ty t).elem).sz → ∀ (ao : Option Addr) (len cap : Nat), a.eval x = .slice ao len cap → m ≤ cap →
            (execOp a.eval o).run P w = .ok (.value (.slice (if cap = 0 then ao else ao.map (·.add (0 * (cf.ty (cf.ty t).elem).sz))) (m.toNat - 0) (cap - 0))) w := by
          intro hpos ao len cap hv hb
          obtain ⟨ie, ze, de, FE, hu⟩ := tab hpos
          simp only [execOp, ho, Instr.sliceAt, Sem.run_bind, run_underlying hu, Result.andThen, hv, Instr.slice, Instr.sliceBounds, Option.map_none, Option.map_some, Sem.run_pure, hm, run_bound h0 hb, FE.run_sizeOf]
        clear hk
        rcases hq with ⟨els, he, rfl, h2, hk⟩ | ⟨id, len, he, rfl, h2, hk⟩ | ⟨he, rfl, rfl, hk⟩ | ⟨s, he, rfl, h2, hk⟩
        · obtain ⟨ao, cap, hv⟩ := rep_slice hx
          rw [hv] at hx
          obtain ⟨_, hcap⟩ := rep_cap hx
          refine wp_same H (run he ao _ cap hv (by omega)) (y := .av _) ?_ av_lkey hk
          have := rep_sub hx 0 m.toNat (Nat.zero_le _) (by omega)
          show Rep w C _ _
          simpa using this
        · generalize hv : a.eval x = va at hx
          cases hx with
          | os hmu hl hn =>
            refine wp_same H (run he _ _ _ hv (by omega)) (y := .av _) ?_ av_lkey hk
            have : Rep w C (.os id m.toNat) _ := Rep.os hmu (len := m.toNat) (by omega) hn
            show Rep w C _ _
            simpa [addr_add] using this
        · generalize hv : a.eval x = va at hx
          cases hx with
          | e0 =>
            refine wp_same H (run he _ _ _ hv (by omega)) (y := .av _) ?_ av_lkey hk
            exact .e0
        · have hu := strs s hx he
          have hv := rep_val hx
          refine wp_same H (v := .string (s.extract 0 m.toNat)) ?_ (y := .av _) (.val rfl) av_lkey hk
          simp only [execOp, ho, Instr.sliceAt, Sem.run_bind, run_underlying hu, Result.andThen, hv, Instr.slice, Instr.sliceBounds, Option.map_none, Option.map_some, Sem.run_pure, hm, run_bound h0 h2, Option.isSome_none, Bool.false_eq_true, if_false]
      · cases h1
      · cases h1
  · rcases optK_elim H hk1 with ⟨hhi, hk⟩ | ⟨my, mv, hhi, hmr, hk⟩ <;> clear hk1 <;> subst hhi
    · rcases sliceA_elim hk with ⟨h1, _⟩ | ⟨_, kd, l, h1, h0, hq⟩ | ⟨kd, l, kd', m, h1, h2, _⟩
      · cases h1
      · cases h1
        have hl := rep_int hlr
        have run : 0 < (cf.ty (cf.ty t).elem).sz → ∀ (ao : Option Addr) (len cap : Nat), a.eval x = .slice ao len cap → l ≤ len →
            (execOp a.eval o).run P w = .ok (.value (.slice (if cap = l.toNat then ao else ao.map (·.add (l.toNat * (cf.ty (cf.ty t).elem).sz))) (len - l.toNat) (cap - l.toNat))) w := by
          intro hpos ao len cap hv hb
          obtain ⟨ie, ze, de, FE, hu⟩ := tab hpos
          simp only [execOp, ho, Instr.sliceAt, Sem.run_bind, run_underlying hu, Result.andThen, hv, Instr.slice, Instr.sliceBounds, Option.map_none, Option.map_some, Sem.run_pure, hl, run_bound h0 hb, FE.run_sizeOf, Option.isSome_none, Bool.false_eq_true, if_false]
        clear hk
        rcases hq with ⟨els, he, rfl, h2, hk⟩ | ⟨he, rfl, rfl, hk⟩ | ⟨s, he, rfl, h2, hk⟩
        · obtain ⟨ao, cap, hv⟩ := rep_slice hx
          rw [hv] at hx
          refine wp_same H (run he ao _ cap hv (by omega)) (y := .av _) ?_ av_lkey hk
          have := rep_sub hx l.toNat els.length (by omega) (Nat.le_refl _)
          show Rep w C _ _
          simpa using this
        · generalize hv : a.eval x = va at hx
          cases hx with
          | e0 =>
            refine wp_same H (run he _ _ _ hv (by omega)) (y := .av _) ?_ av_lkey hk
            exact .e0
        · have hu := strs s hx he
          have hv := rep_val hx
          refine wp_same H (v := .string (s.extract l.toNat s.size)) ?_ (y := .av _) (.val rfl) av_lkey hk
          simp only [execOp, ho, Instr.sliceAt, Sem.run_bind, run_underlying hu, Result.andThen, hv, Instr.slice, Instr.sliceBounds, Option.map_none, Option.map_some, Sem.run_pure, hl, run_bound h0 h2, Option.isSome_none, Bool.false_eq_true, if_false]
      · cases h2
    · rcases sliceA_elim hk with ⟨h1, _⟩ | ⟨h1, _⟩ | ⟨kd, l, kd', m, h1, h2, h0, h3, hq⟩
      · cases h1
      · cases h1
      · cases h1; cases h2
        have hl := rep_int hlr
        have hm := rep_int hmr
        clear hk
        rcases hq with ⟨els, he, rfl, h4, hk⟩ | ⟨s, he, rfl, h4, hk⟩
        · obtain ⟨ao, cap, hv⟩ := rep_slice hx
          rw [hv] at hx
          obtain ⟨_, hcap⟩ := rep_cap hx
          obtain ⟨ie, ze, de, FE, hu⟩ := tab he
          refine wp_same H (v := .slice (if cap = l.toNat then ao else ao.map (·.add (l.toNat * (cf.ty (cf.ty t).elem).sz))) (m.toNat - l.toNat) (cap - l.toNat)) ?_ (y := .av _) (rep_sub hx l.toNat m.toNat (by omega) (by omega)) av_lkey hk
          simp only [execOp, ho, Instr.sliceAt, Sem.run_bind, run_underlying hu, Result.andThen, hv, Instr.slice, Instr.sliceBounds, Option.map_none, Option.map_some, Sem.run_pure, hl, hm, run_bound (by omega : (0 : Int) ≤ m) (by omega : m ≤ (cap : Int)), run_bound h0 (by omega : l ≤ (m.toNat : Int)), FE.run_sizeOf, Option.isSome_none, Bool.false_eq_true, if_false]
        · have hu := strs s hx he
          have hv := rep_val hx
          refine wp_same H (v := .string (s.extract l.toNat m.toNat)) ?_ (y := .av _) (.val rfl) av_lkey hk
          simp only [execOp, ho, Instr.sliceAt, Sem.run_bind, run_underlying hu, Result.andThen, hv, Instr.slice, Instr.sliceBounds, Option.map_none, Option.map_some, Sem.run_pure, hl, hm, run_bound (by omega : (0 : Int) ≤ m) h4, run_bound h0 (by omega : l ≤ (m.toNat : Int)), Option.isSome_none, Bool.false_eq_true, if_false]
end
end Am
