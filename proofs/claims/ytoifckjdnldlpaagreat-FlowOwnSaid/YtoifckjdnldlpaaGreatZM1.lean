/- From contracts to rows: arguments as they are read, the world behind the call. -/
import Derived.Test.YtoifckjdnldlpaaGreatZPD
import Derived.Carry
import Derived.ProofKit
import Derived.SizedLaws
set_option linter.unusedVariables false
set_option linter.unusedSimpArgs false
namespace Am
open Go Go.RowKit Go.WideShapes Go.ChangeShapes
def C0 (w : World) : Cx := ⟨fun _ => none, fun b => b < w.heap.size⟩
theorem MRel0 (w : World) : MRel w (C0 w) (fun _ => none) := ⟨fun _ _ _ _ _ _ h => (by cases h), fun _ _ h => (by cases h), fun _ h => h, ⟨0, fun _ _ => ⟨rfl, rfl⟩⟩⟩
theorem Ev.below {w w' : World} {C C' : Cx} {h' : Heap} (E : Ev w C (fun _ => none) w' C' h') : Below w.heap.size w w' :=
  ⟨E.os, E.tape, E.output, E.size, fun k hk => E.frame k hk (by rintro ⟨_, _, _, h, _⟩; cases h)⟩
theorem row_calls {P : Program} {f : FuncId} {args : List AV} {vs : Array Value} {w : World} (h : ACalls P f args (fun _ => none) fun r _ => r = .val (.bool true)) (hs : vs.size = args.length)
    (hr : ∀ j, j < args.length → Rep w (C0 w) (g args j) (vs.getD j undef)) : Calls P f vs w fun e w' => e = .returned (.bool true) ∧ Below w.heap.size w w' :=
  (h.2 w (C0 w) vs (MRel0 w) hs hr).mono fun e w' ⟨v, C', h', r, he, E, hrep, hq⟩ => by
    subst hq
    cases hrep
    exact ⟨he, E.below⟩
section
variable {H : Type} {enc : TypeId × Value → H} {P : Program}
theorem post_of_below {f : Func} {s : ChangeSpec} {apart fresh handsOn again : Bool} {W W' : World} {args : Array Value} {v : Value} {ds gs : List (DataW H)} {before pa pv : List MemPlace}
    (hW : DataW.Whole enc P f.params.toList s.vars apart W args.toList ds gs before)
    (hres : ∀ (b : Nat) (sp : Nat → Bool) (hd : Bool), DataW.TrodAll enc P W' b sp hd f.resultTypes.toList (v.resultList f.resultTypes.size) (s.fn H (ds ++ gs)).results [])
    (hargs : ∀ sp : Nat → Bool, (∀ p ∈ before, sp p.block = true) → DataW.TrodAll enc P W' 0 sp true f.params.toList args.toList (s.fn H (ds ++ gs)).args pa)
    (hvars : ∀ sp : Nat → Bool, (∀ p ∈ before, sp p.block = true) → DataW.TrodVars enc P W' sp s.vars (s.fn H (ds ++ gs)).vars pv)
    (hps : before = pa ++ pv) (hb : Below W.heap.size W W')
    (hok : ∀ (j : Nat) (t : TypeId) (r : Value), f.resultTypes[j]? = some t → (v.resultList f.resultTypes.size)[j]? = some r → Value.okWide P W' .any 0 t r) :
    s.post enc P f apart fresh handsOn again W args v W' := by
  have hlt : ∀ p ∈ before, p.block < W.heap.size := fun p hp => hW.lt p hp
  have hold : ∀ p ∈ before, (fun b => decide (b < W.heap.size)) p.block = true := fun p hp => by simpa using hlt p hp
  refine ⟨ds, gs, before, [], pa, pv, hW, hres _ _ _, hargs _ hold, hvars _ hold, World.keptBut_mono (fun p hp => ⟨hp, ?_⟩) (hb.frame (· ∈ before)), fun _ => ?_⟩
  · rw [hps, List.mem_append] at hp
    exact Or.inr hp
  · obtain ⟨_, _, _, _, _, hz, hn⟩ := hW
    refine ⟨hok, _, _, ([] ++ pa) ++ pv, ⟨[] ++ pa, pv, trodAll_append (hargs _ (fun _ _ => rfl)) (hres _ _ _), hvars _ (fun _ _ => rfl), rfl, ?_, ?_⟩, ?_⟩
    · intro b off hp
      have hin : MemPlace.cell b off ∈ before := by rw [hps]; simpa using hp
      rw [hb.frozen (hlt _ hin)]
      exact hz b off hin
    · intro ha
      have := hn ha
      rw [hps] at this
      simpa using this
    · intro p hp _
      rw [hps]
      simpa using hp
theorem trodAll_stays (hl : laidOutB P = true) {W W' : World} {sp : Nat → Bool} : ∀ {ts : List TypeId} {vs : List Value} {ds : List (DataW H)} {ps : List MemPlace}, (∀ t, t ∈ ts → P.readableRec t = true ∧ t < P.types.size) →
    DataW.TrodAll enc P W 0 (fun _ => true) true ts vs ds ps → Below W.heap.size W W' → (∀ x ∈ ps, x.block < W.heap.size) → (∀ x ∈ ps, sp x.block = true) → DataW.TrodAll enc P W' 0 sp true ts vs ds ps
  | [], [], [], ps, _, h, _, _, _ => h
  | t :: ts, v :: vs, d :: ds, ps, hts, h, hb, hlt, hsp => by
    obtain ⟨p, q, h1, h2, rfl⟩ := h
    obtain ⟨r1, r2⟩ := hts t (by simp)
    refine ⟨p, q, WideElems.Trod_stays hl r1 r2 h1 (fun x hx => hb.same (hlt x (by simp [hx]))) (fun x hx => hsp x (by simp [hx])), ?_, rfl⟩
    exact trodAll_stays hl (fun t ht => hts t (by simp [ht])) h2 hb (fun x hx => hlt x (by simp [hx])) (fun x hx => hsp x (by simp [hx]))
  | [], _ :: _, _, _, _, h, _, _, _ => h.elim
  | [], [], _ :: _, _, _, h, _, _, _ => h.elim
  | _ :: _, [], _, _, _, h, _, _, _ => h.elim
  | _ :: _, _ :: _, [], _, _, h, _, _, _ => h.elim
theorem law_post {f : Func} {s : ChangeSpec} {apart fresh handsOn again : Bool} {W W' : World} {args : Array Value} {ds gs : List (DataW H)} {before : List MemPlace} {tb : TypeId} (hl : laidOutB P = true)
    (hts : ∀ t, t ∈ f.params.toList → P.readableRec t = true ∧ t < P.types.size) (hv : s.vars = []) (hrt : f.resultTypes = #[tb]) (htb : P.underlying tb = some .bool)
    (hfn : ∀ ds : List (DataW H), ds.length = f.params.size → (s.fn H ds).results = [.lit (.bool true)] ∧ (s.fn H ds).args = ds ∧ (s.fn H ds).vars = [])
    (hW : DataW.Whole enc P f.params.toList s.vars apart W args.toList ds gs before) (hb : Below W.heap.size W W') : s.post enc P f apart fresh handsOn again W args (.bool true) W' := by
  have hW' := hW
  obtain ⟨p, q, hA, hV, rfl, hfz, hnd⟩ := hW'
  rw [hv] at hV
  have hq : q = [] ∧ gs = [] := by
    cases gs with
    | nil => exact ⟨hV, rfl⟩
    | cons _ _ => exact hV.elim
  obtain ⟨rfl, rfl⟩ := hq
  have hlen : ∀ {ts : List TypeId} {vs : List Value} {ds : List (DataW H)} {ps : List MemPlace}, DataW.TrodAll enc P W 0 (fun _ => true) true ts vs ds ps → ds.length = ts.length := by
    intro ts
    induction ts with
    | nil => intro vs ds ps h; cases vs <;> cases ds <;> first | rfl | exact h.elim
    | cons t ts ih => intro vs ds ps h; cases vs <;> cases ds <;> first | exact h.elim | (obtain ⟨p, q, h1, h2, _⟩ := h; simp [ih h2])
  obtain ⟨f1, f2, f3⟩ := hfn (ds ++ []) (by simpa using hlen hA)
  have hlt : ∀ x ∈ p ++ [], x.block < W.heap.size := fun x hx => hW.lt x hx
  refine post_of_below (pa := p) (pv := []) hW (fun b sp hd => ?_) (fun sp hsp => ?_) (fun sp hsp => ?_) rfl hb (ok_one hrt rfl (okWide_bool_mk htb true))
  · rw [f1, hrt]
    exact trodAll_mk1 (shut_bool htb true)
  · rw [f2]
    simp only [List.append_nil] at hlt ⊢
    exact trodAll_stays hl hts hA hb hlt (fun x hx => hsp x (by simpa using hx))
  · rw [f3, hv]; exact rfl
end
def CL (w : World) (avs : List AV) (cs : List Value) : Prop := avs.length = cs.length ∧ ∀ j, j < avs.length → one (cs.getD j undef) = true ∧ Rep w (C0 w) (g avs j) (cs.getD j undef)
theorem CL.append {w : World} {a a' : List AV} {c c' : List Value} (h : CL w a c) (h' : CL w a' c') : CL w (a ++ a') (c ++ c') := by
  refine ⟨by simp [h.1, h'.1], fun j hj => ?_⟩
  by_cases hlt : j < a.length
  · have e1 : g (a ++ a') j = g a j := getD_app_l hlt
    have e2 : (c ++ c').getD j undef = c.getD j undef := getD_app_l (by rw [← h.1]; exact hlt)
    rw [e1, e2]; exact h.2 j hlt
  · have e1 : g (a ++ a') j = g a' (j - a.length) := getD_app_r (by omega)
    have e2 : (c ++ c').getD j undef = c'.getD (j - c.length) undef := getD_app_r (by rw [← h.1]; omega)
    rw [e1, e2, ← h.1]
    exact h'.2 _ (by simp at hj; omega)
theorem CL.single {w : World} {a : AV} {v : Value} (h1 : one v = true) (hr : Rep w (C0 w) a v) : CL w [a] [v] := ⟨rfl, fun j hj => by
  obtain rfl : j = 0 := by simpa using hj
  exact ⟨h1, hr⟩⟩
theorem CL.one {w : World} {a : AV} {cs : List Value} (h : CL w [a] cs) : ∃ v, cs = [v] ∧ Rep w (C0 w) a v := by
  obtain ⟨h1, h2⟩ := h
  match cs, h1 with
  | [v], _ => exact ⟨v, rfl, (h2 0 (by simp)).2⟩
section
variable {H : Type} {enc : TypeId × Value → H} {P : Program} {w : World} {sp : Nat → Bool}
def Rds (enc : TypeId × Value → H) (P : Program) (w : World) (sp : Nat → Bool) (n : Nat) (t : TypeId) (α : Type) (en : α → List AV) : Prop :=
  ∀ cs x, DataW.trod enc P w 0 sp true n t cs = some x → ∃ a, CL w (en a) cs
theorem rds_int {t : TypeId} {k : IntKind} (ht : P.underlying t = some (.int k)) (n : Nat) : Rds enc P w sp n t Int (fun i => [.val (.int k i)]) := by
  intro cs x h
  cases n with
  | zero => simp [DataW.trod] at h
  | succ n =>
    unfold DataW.trod at h
    rw [ht] at h
    split at h <;> simp_all
    obtain ⟨⟨rfl, _⟩, _⟩ := h
    exact ⟨_, CL.single rfl (.val rfl)⟩
theorem rds_bool {t : TypeId} (ht : P.underlying t = some .bool) (n : Nat) : Rds enc P w sp n t Bool (fun i => [.val (.bool i)]) := by
  intro cs x h
  cases n with
  | zero => simp [DataW.trod] at h
  | succ n =>
    unfold DataW.trod at h
    rw [ht] at h
    split at h <;> simp_all
    rename_i b
    cases b
    · exact .inl (CL.single rfl (.val rfl))
    · exact .inr (CL.single rfl (.val rfl))
theorem rds_string {t : TypeId} (ht : P.underlying t = some .string) (n : Nat) : Rds enc P w sp n t ByteArray (fun i => [.val (.string i)]) := by
  intro cs x h
  cases n with
  | zero => simp [DataW.trod] at h
  | succ n =>
    unfold DataW.trod at h
    rw [ht] at h
    split at h <;> simp_all
    exact ⟨_, CL.single rfl (.val rfl)⟩
theorem cells_get {a : Addr} {n : Nat} {cs : List Value} (h : w.cells? 0 a n = some cs) : cs.length = n ∧ ∀ j, j < n → w.cell? (a.add j) = cs[j]? := by
  unfold World.cells? at h
  rw [if_pos (Nat.zero_le _)] at h
  exact ⟨by simpa using mapM_some_length h, fun j hj => mapM_some_get h j j (by simp [hj])⟩
theorem rds_slice' {t e : TypeId} {sz : Nat} {α : Type} {en : α → List AV} (ht : P.underlying t = some (.slice e)) (hc : P.cellsOf e = sz) (hsz : ∀ a, (en a).length = sz) (hpos : 0 < sz) {n : Nat} (HE : ∀ m, m < n → Rds enc P w sp m e α en)
    {cs : List Value} {x : DataW H × List MemPlace} (h : DataW.trod enc P w 0 sp true n t cs = some x) : ∃ l : List α, CL w [.rs sz (l.map en)] cs ∧ ((l = [] ∧ x.1 = .nil) ∨ ∃ es spare, x.1 = .slice es spare ∧ es.length = l.length) := by
  rcases DataW.trod_slice ht h with ⟨rfl, rfl⟩ | ⟨a, len, cap, elems, rest, m, hn, rfl, rfl, _, hlc, _, hel, hE, _, _⟩
  · exact ⟨[], CL.single rfl .rs0, .inl ⟨rfl, rfl⟩⟩
  · subst hn
    have step : ∀ i, i < len → ∃ (y : α) (ds : List Value), w.cells? 0 (a.add (i * sz)) sz = some ds ∧ CL w (en y) ds := by
      intro i hi
      have h1 := hE i hi
      rw [List.getElem?_eq_getElem (by omega), hc, Option.bind_eq_some_iff] at h1
      obtain ⟨ds, h2, h3⟩ := h1
      obtain ⟨y, h4⟩ := HE m (by omega) ds _ h3
      exact ⟨y, ds, h2, h4⟩
    let F : Fin len → α := fun i => Classical.choose (step i.1 i.2)
    have hF : ∀ i (hi : i < len), ∃ ds, w.cells? 0 (a.add (i * sz)) sz = some ds ∧ CL w (en (F ⟨i, hi⟩)) ds := fun i hi => Classical.choose_spec (step i hi)
    refine ⟨List.ofFn F, CL.single rfl ?_, .inr ⟨_, _, rfl, by simp [hel]⟩⟩
    rcases Nat.eq_zero_or_pos len with h0 | h0
    · subst h0
      have : List.ofFn F = [] := by simp
      rw [this]; exact .rs0
    · have hcell : ∀ i j (hi : i < len), j < sz → ∃ v, w.cell? ((a.add (i * sz)).add j) = some v ∧ one v = true ∧ Rep w (C0 w) (g (en (F ⟨i, hi⟩)) j) v := by
        intro i j hi hj
        obtain ⟨ds, h1, h2⟩ := hF i hi
        obtain ⟨h3, h4⟩ := cells_get h1
        obtain ⟨h5, h6⟩ := h2.2 j (by rw [hsz]; exact hj)
        have : ds[j]? = some (ds.getD j undef) := by rw [List.getD_eq_getElem?_getD, List.getElem?_eq_getElem (by omega)]; rfl
        exact ⟨_, (h4 j hj).trans this, h5, h6⟩
      have hspot : a.spot = none ∧ a.block < w.heap.size := by
        obtain ⟨v, hv, _⟩ := hcell 0 0 h0 hpos
        rw [Nat.zero_mul] at hv
        have e : (a.add 0).add 0 = a := rfl
        rw [e] at hv
        unfold World.cell? at hv
        split at hv
        · rename_i c t' fr hh
          refine ⟨?_, (Array.getElem?_eq_some_iff.1 hh).1⟩
          cases hs : a.spot with
          | none => rfl
          | some _ => rw [hs] at hv; simp at hv
        · cases hv
      obtain ⟨ab, ao, asp⟩ := a
      obtain ⟨rfl, hlt⟩ := hspot
      have hlen : ((List.ofFn F).map en).length = len := by simp
      have hget : ∀ i (hi : i < len), ((List.ofFn F).map en).getD i [] = en (F ⟨i, hi⟩) := fun i hi => by
        simp [List.getD_eq_getElem?_getD, hi]
      rw [show (Value.slice (some ⟨ab, ao, none⟩) len cap) = .slice (some ⟨ab, ao, none⟩) ((List.ofFn F).map en).length cap from by rw [hlen]]
      let vs : Nat → Nat → Value := fun i j => (w.cell? ⟨ab, ao + i * sz + j, none⟩).getD undef
      have hvs : ∀ i j (hi : i < len), j < sz → w.cell? ⟨ab, ao + i * sz + j, none⟩ = some (vs i j) ∧ one (vs i j) = true ∧ Rep w (C0 w) (g (en (F ⟨i, hi⟩)) j) (vs i j) := by
        intro i j hi hj
        obtain ⟨v, h1, h2, h3⟩ := hcell i j hi hj
        rw [addr_add, addr_add] at h1
        have e : vs i j = v := by show (w.cell? _).getD undef = v; rw [h1]; rfl
        rw [e]; exact ⟨h1, h2, h3⟩
      refine Rep.rs vs hlt (by rw [hlen]; exact hlc) (fun i hi => ?_) (fun i j hi hj => ?_) (fun i j hi hj => ?_)
      · rw [hlen] at hi; rw [hget i hi]; exact hsz _
      · rw [hlen] at hi; obtain ⟨h1, h2, _⟩ := hvs i j hi hj; exact ⟨h1, h2⟩
      · rw [hlen] at hi; rw [hget i hi]; exact (hvs i j hi hj).2.2
theorem rds_slice {t e : TypeId} {sz : Nat} {α : Type} {en : α → List AV} (ht : P.underlying t = some (.slice e)) (hc : P.cellsOf e = sz) (hsz : ∀ a, (en a).length = sz) (hpos : 0 < sz) {n : Nat} (HE : ∀ m, m < n → Rds enc P w sp m e α en) :
    Rds enc P w sp n t (List α) (fun l => [.rs sz (l.map en)]) := fun cs x h => by
  obtain ⟨l, h1, _⟩ := rds_slice' ht hc hsz hpos HE h
  exact ⟨l, h1⟩
theorem rds_struct1 {t : TypeId} {f0 : Field} {α : Type} {e0 : α → List AV} (ht : P.underlying t = some (.struct #[f0])) (o0 : f0.offset = 0) (c0 : P.cellsOf f0.type = P.cellsOf t) {n : Nat} (H0 : ∀ m, m < n → Rds enc P w sp m f0.type α e0) : Rds enc P w sp n t α e0 := by
  intro cs x h
  obtain ⟨xs, m, rfl, _, hl, hlen, hf⟩ := DataW.trod_struct ht h
  have h0 := hf 0 f0 rfl
  rw [o0, List.drop_zero, c0, List.take_of_length_le (by omega), List.getElem?_eq_getElem (by rw [hlen]; simp)] at h0
  exact H0 m (by omega) cs _ h0
theorem rds_struct2 {t : TypeId} {f0 f1 : Field} {s0 s1 : Nat} {α β : Type} {e0 : α → List AV} {e1 : β → List AV} (ht : P.underlying t = some (.struct #[f0, f1])) (o0 : f0.offset = 0) (o1 : f1.offset = s0) (c0 : P.cellsOf f0.type = s0) (c1 : P.cellsOf f1.type = s1) (ct : P.cellsOf t = s0 + s1)
    {n : Nat} (H0 : ∀ m, m < n → Rds enc P w sp m f0.type α e0) (H1 : ∀ m, m < n → Rds enc P w sp m f1.type β e1) : Rds enc P w sp n t (α × β) (fun p => e0 p.1 ++ e1 p.2) := by
  intro cs x h
  obtain ⟨xs, m, rfl, _, hl, hlen, hf⟩ := DataW.trod_struct ht h
  have hlen' : xs.length = 2 := hlen
  have h0 := hf 0 f0 rfl
  have h1 := hf 1 f1 rfl
  rw [o0, List.drop_zero, c0, List.getElem?_eq_getElem (by omega)] at h0
  rw [o1, c1, List.getElem?_eq_getElem (by omega)] at h1
  obtain ⟨a, ha⟩ := H0 m (by omega) _ _ h0
  obtain ⟨b, hb⟩ := H1 m (by omega) _ _ h1
  refine ⟨(a, b), ?_⟩
  have e : cs = cs.take s0 ++ (cs.drop s0).take s1 := by
    rw [List.take_of_length_le (l := cs.drop s0) (by simp; omega), List.take_append_drop]
  rw [e]
  exact ha.append hb
theorem rds_struct3 {t : TypeId} {f0 f1 f2 : Field} {s0 s1 s2 : Nat} {α β γ : Type} {e0 : α → List AV} {e1 : β → List AV} {e2 : γ → List AV} (ht : P.underlying t = some (.struct #[f0, f1, f2])) (o0 : f0.offset = 0) (o1 : f1.offset = s0) (o2 : f2.offset = s0 + s1)
    (c0 : P.cellsOf f0.type = s0) (c1 : P.cellsOf f1.type = s1) (c2 : P.cellsOf f2.type = s2) (ct : P.cellsOf t = s0 + s1 + s2)
    {n : Nat} (H0 : ∀ m, m < n → Rds enc P w sp m f0.type α e0) (H1 : ∀ m, m < n → Rds enc P w sp m f1.type β e1) (H2 : ∀ m, m < n → Rds enc P w sp m f2.type γ e2) : Rds enc P w sp n t (α × β × γ) (fun p => e0 p.1 ++ e1 p.2.1 ++ e2 p.2.2) := by
  intro cs x h
  obtain ⟨xs, m, rfl, _, hl, hlen, hf⟩ := DataW.trod_struct ht h
  have hlen' : xs.length = 3 := hlen
  have h0 := hf 0 f0 rfl
  have h1 := hf 1 f1 rfl
  have h2 := hf 2 f2 rfl
  rw [o0, List.drop_zero, c0, List.getElem?_eq_getElem (by omega)] at h0
  rw [o1, c1, List.getElem?_eq_getElem (by omega)] at h1
  rw [o2, c2, List.getElem?_eq_getElem (by omega)] at h2
  obtain ⟨a, ha⟩ := H0 m (by omega) _ _ h0
  obtain ⟨b, hb⟩ := H1 m (by omega) _ _ h1
  obtain ⟨c, hc⟩ := H2 m (by omega) _ _ h2
  refine ⟨(a, b, c), ?_⟩
  have e : cs = cs.take s0 ++ (cs.drop s0).take s1 ++ (cs.drop (s0 + s1)).take s2 := by
    rw [List.take_of_length_le (l := cs.drop (s0 + s1)) (by simp; omega), List.append_assoc, ← List.drop_drop, List.take_append_drop, List.take_append_drop]
  rw [e]
  exact (ha.append hb).append hc
end
end Am
