/- The analysis's state, and how it lies in memory; the loop that pushes work. -/
import Derived.Test.YtoifckjdnldlpaaGreatZFa
import Derived.Test.YtoifckjdnldlpaaGreatZFb
set_option linter.unusedVariables false
set_option linter.unusedSimpArgs false
namespace Am
open Go Go.Proofs.Tryz
def ndS (s : Sch) (p : Pc) : Tm × List Nat := (ndF 0 (s.funs.getD p.1 default).body).getD p.2 (default, [])
def NS (s : Sch) : List (List AV) := s.funs.map fun f => [.rs 2 (ndCs (ndF 0 f.body))]
def ar (s : Sch) (f : Nat) : Nat := (s.funs.getD f default).sort.kids.length
def CSl (s : Sch) (l : Lo) : List (List AV) := (List.range s.funs.length).map fun f => [.rs 1 ((List.range (ar s f)).map fun i => [.mp (l (.cm (f, i)))])]
def okP (s : Sch) (p : Pc) : Prop := p.1 < s.funs.length ∧ p.2 < (s.funs.getD p.1 default).body.nodes
def okK (s : Sch) (k : Pc) : Prop := k.1 < s.funs.length ∧ k.2 < ar s k.1
instance (s : Sch) (k : Pc) : Decidable (okK s k) := inferInstanceAs (Decidable (_ ∧ _))
structure St where
  bg : List Pc
  hl : List (Pc × Pc)
  cl : List (Pc × Pc)
  kw : List Pc
  ki : List Pc
  wk : List AV
  jk : List AV
  wn : Bool
def pick (l : List (Pc × Pc)) (p : Pc) : List Pc := (l.filter fun e => decide (e.1 = p)).map (·.2)
def pick2 (l : List (Pc × Pc)) (p : Pc) : List Pc := (l.filter fun e => decide (e.2 = p)).map (·.1)
@[simp] theorem mem_pick {l : List (Pc × Pc)} {p q : Pc} : q ∈ pick l p ↔ (p, q) ∈ l := by
  simp only [pick, List.mem_map, List.mem_filter, decide_eq_true_eq]
  exact ⟨fun ⟨e, ⟨h1, h2⟩, h3⟩ => by subst h2; subst h3; exact h1, fun h => ⟨_, ⟨h, rfl⟩, rfl⟩⟩
@[simp] theorem mem_pick2 {l : List (Pc × Pc)} {p q : Pc} : q ∈ pick2 l p ↔ (q, p) ∈ l := by
  simp only [pick2, List.mem_map, List.mem_filter, decide_eq_true_eq]
  exact ⟨fun ⟨e, ⟨h1, h2⟩, h3⟩ => by subst h2; subst h3; exact h1, fun h => ⟨_, ⟨h, rfl⟩, rfl⟩⟩
theorem nodup_map_on {α β : Type} {f : α → β} {l : List α} (hn : l.Nodup) (hf : ∀ a, a ∈ l → ∀ b, b ∈ l → f a = f b → a = b) : (l.map f).Nodup := by
  induction l with
  | nil => simp
  | cons a l ih =>
    rw [List.nodup_cons] at hn
    rw [List.map_cons, List.nodup_cons]
    refine ⟨fun h => ?_, ih hn.2 fun a ha b hb => hf a (by simp [ha]) b (by simp [hb])⟩
    obtain ⟨b, hb, e⟩ := List.mem_map.1 h
    have := hf b (by simp [hb]) a (by simp) e
    exact hn.1 (this ▸ hb)
theorem pick_nodup {l : List (Pc × Pc)} (hn : l.Nodup) (p : Pc) : (pick l p).Nodup := by
  refine nodup_map_on (hn.sublist List.filter_sublist) fun a ha b hb e => ?_
  have h1 : a.1 = p := by simpa using (List.mem_filter.1 ha).2
  have h2 : b.1 = p := by simpa using (List.mem_filter.1 hb).2
  exact Prod.ext (h1.trans h2.symm) e
theorem pick2_nodup {l : List (Pc × Pc)} (hn : l.Nodup) (p : Pc) : (pick2 l p).Nodup := by
  refine nodup_map_on (hn.sublist List.filter_sublist) fun a ha b hb e => ?_
  have h1 : a.2 = p := by simpa using (List.mem_filter.1 ha).2
  have h2 : b.2 = p := by simpa using (List.mem_filter.1 hb).2
  exact Prod.ext e (h1.trans h2.symm)
theorem pick_snoc (l : List (Pc × Pc)) (k q p : Pc) : pick (l ++ [(k, q)]) p = if k = p then pick l p ++ [q] else pick l p := by
  simp only [pick, List.filter_append, List.map_append]
  by_cases e : k = p <;> simp [e]
theorem pick2_snoc (l : List (Pc × Pc)) (k q p : Pc) : pick2 (l ++ [(k, q)]) p = if q = p then pick2 l p ++ [k] else pick2 l p := by
  simp only [pick2, List.filter_append, List.map_append]
  by_cases e : q = p <;> simp [e]
def keyOf (s : Sch) (p : Pc) : Option Pc := if (ndS s p).1.lab.1 = 0 then some (p.1, (ndS s p).1.lab.2.toNat) else none
def wtOf (s : Sch) (bg : List Pc) (k : Pc) : List Pc := bg.filter fun q => decide (keyOf s q = some k)
def wV (σ : St) (l : Lo) : AV := if σ.wn then .os (l .wk) σ.wk.length else .e0
def paC (s : Sch) (bl : List Bool) (σ : St) (l : Lo) : List AV := [.rs 2 (syCs s.syms), .rs 5 (fnCs s.funs), .rs 1 (NS s), .rs 1 (CSl s l), .mp (l .mh), .mp (l .mw), .mp (l .mi), .rs 1 (bCs bl), wV σ l, I (σ.cl.length : Nat)]
def ones (l : List AV) : List (List AV) := l.map fun x => [x]
@[simp] theorem ones_len (l : List AV) : (ones l).length = l.length := by simp [ones]
@[simp] theorem ones_app (l l' : List AV) : ones (l ++ l') = ones l ++ ones l' := by simp [ones]
@[simp] theorem ones_nil : ones [] = [] := rfl
theorem ones_one (x : AV) : ones [x] = [[x]] := rfl
theorem ones_sz (l : List AV) (i : Nat) (hi : i < (ones l).length) : ((ones l).getD i []).length = 1 := by
  have : i < l.length := by simpa using hi
  simp [ones, List.getD_eq_getElem?_getD, this]
def conS (s : Sch) (bl : List Bool) (σ : St) (l : Lo) : Con
  | .pa => some (.arr 10 [paC s bl σ l])
  | .mh => some (mpN σ.bg fun p => .mp (l (.hm p)))
  | .mw => some (mpN σ.kw fun k => .os (l (.wa k)) (wtOf s σ.bg k).length)
  | .mi => some (mpN σ.ki fun p => .os (l (.ia p)) (pick2 σ.cl p).length)
  | .cm k => if okK s k then some (mpN (pick σ.cl k) fun _ => B true) else none
  | .hm p => if p ∈ σ.bg then some (mpN (pick σ.hl p) fun _ => B true) else none
  | .wa k => if k ∈ σ.kw then some (.arr 2 ((wtOf s σ.bg k).map plC)) else none
  | .ia p => if p ∈ σ.ki then some (.arr 2 ((pick2 σ.cl p).map plC)) else none
  | .wk => if σ.wn then some (.arr 1 (ones (σ.wk ++ σ.jk))) else none
  | _ => none
def ovl (c X : Con) : Con := fun b => (c b).or (X b)
def Fx (l : Lo) (X : Con) (x : AV) : Prop := ∃ f caps, x = .fn f caps ∧ ∀ y, y ∈ caps → (∃ cs, y = .ro cs) ∨ ∃ a, X a ≠ none ∧ y = .op (l a) 0 0
theorem Fx.fz {l : Lo} {X : Con} {x : AV} (H : Fx l X x) {id : Nat} {cs : List AV} (hid : ∀ a, X a ≠ none → l a ≠ id) : fzW id cs x = x := by
  obtain ⟨f, caps, rfl, h⟩ := H
  simp only [fzW]
  congr 1
  refine (List.map_congr_left fun y hy => ?_).trans (List.map_id caps)
  rcases h y hy with ⟨cs', rfl⟩ | ⟨a, ha, rfl⟩
  · rfl
  · simp [fzA, hid a ha]
def St.push (σ : St) (ws : List AV) : St := { σ with wk := σ.wk ++ ws, jk := if ws.isEmpty then σ.jk else [], wn := σ.wn || !ws.isEmpty }
def St.mapW (σ : St) (f : AV → AV) : St := { σ with wk := σ.wk.map f, jk := σ.jk.map f }
theorem push_mapW (σ : St) (ws : List AV) {f : AV → AV} (h1 : ∀ x, x ∈ σ.wk → f x = x) (h2 : ∀ x, x ∈ σ.jk → f x = x) : (σ.push ws).mapW f = σ.push (ws.map f) := by
  have e1 : σ.wk.map f = σ.wk := (List.map_congr_left h1).trans (List.map_id _)
  have e2 : σ.jk.map f = σ.jk := (List.map_congr_left h2).trans (List.map_id _)
  simp only [St.push, St.mapW, List.map_append, e1, List.isEmpty_map]
  cases ws.isEmpty <;> simp [e2]
theorem push_push (σ : St) (a b : List AV) : (σ.push a).push b = σ.push (a ++ b) := by
  simp only [St.push, List.append_assoc]
  cases a with
  | nil => simp
  | cons x a => cases b <;> simp
@[simp] theorem push_nil (σ : St) : σ.push [] = σ := by simp [St.push]
@[simp] theorem fzN_ones (id : Nat) (cs : List AV) (l : List AV) : fzN id cs (.arr 1 (ones l)) = .arr 1 (ones (l.map (fzW id cs))) := by
  simp [fzN, ones]
theorem ld {h : Heap} {id z off : Nat} {cs : List AV} {x : AV} {k : AV → Prop} (hh : h id = some (.arr z [cs])) (ho : off < z) (hx : g cs off = x) (hk : k x) : loadV (.op id 0 off) h k := by
  rw [w_loadV_op hh]
  refine ⟨by simp, ho, ?_⟩
  simp only [List.getD_cons_zero, hx]; exact hk
theorem rdA {h : Heap} {i1 P n : Nat} {cs : List AV} {x : AV} {K : AV → AV → AV → Prop} (h1 : h i1 = some (.arr 1 [[.op P 0 0]])) (ha : h P = some (.arr 10 [cs])) (hn : n < 10) (hx : g cs n = x) (hk : K (.op P 0 0) (.op P 0 n) x) :
    loadV (.op i1 0 0) h fun a => nilA a <| fldA n a fun p => loadV p h fun x => K a p x := by
  refine ld (x := .op P 0 0) h1 (by omega) rfl ?_
  rw [w_nil_op, w_fld_op, Nat.zero_add]
  exact ld ha hn hx hk
theorem rdP {h : Heap} {P n : Nat} {cs : List AV} {x : AV} {K : AV → AV → Prop} (ha : h P = some (.arr 10 [cs])) (hn : n < 10) (hx : g cs n = x) (hk : K (.op P 0 n) x) :
    nilA (.op P 0 0) <| fldA n (.op P 0 0) fun p => loadV p h fun x => K p x := by
  rw [w_nil_op, w_fld_op, Nat.zero_add]
  exact ld ha hn hx hk
theorem ix_rs {h : Heap} {sz n : Nat} {els : List (List AV)} {cs : List AV} {K : AV → Prop} (hn : n < els.length) (he : els.getD n [] = cs) (hk : K (.ro cs)) : idxA sz (.rs sz els) (I (n : Nat)) h K := by
  rw [w_idx_rs, Int.toNat_natCast, he]
  exact ⟨rfl, by omega, by omega, hk⟩
theorem RC.wk_sz {hb h : Heap} {s : Sch} {bl : List Bool} {σ : St} {l : Lo} {X : Con} (hX : X .wk = none) : ∀ els, ovl (conS s bl σ l) X .wk = some (.arr 1 els) → ∀ i, i < els.length → (els.getD i []).length = 1 := by
  intro els he i hi
  simp only [ovl, conS] at he
  cases hw : σ.wn with
  | false => simp [hw, hX] at he
  | true =>
    simp only [hw, if_true] at he
    cases he
    exact ones_sz _ _ hi
theorem RC.fzS {hb h : Heap} {s : Sch} {bl : List Bool} {σ : St} {l : Lo} {X : Con} (R : RC hb (ovl (conS s bl σ l) X) l h) {t : Nat} {sz : Nat} {cs : List AV} (hX : X (.tmp t) = some (.arr sz [cs])) (hcs : cs.length = sz) (hXw : X .wk = none) :
    ∃ h', HRef h h' ∧ RC hb (ovl (conS s bl (σ.mapW (fzW (l (.tmp t)) cs)) l) (X.del (.tmp t))) l h' := by
  obtain ⟨h', e1, e2⟩ := R.freeze (t := .tmp t) (sz := sz) (cs := cs) (by simp [ovl, conS, hX]) hcs (by simp) (RC.wk_sz (h := h) (hb := hb) hXw)
  refine ⟨h', e1, e2.weak fun a n ha => ?_⟩
  cases a <;> simp only [ovl, conS, Con.fz, Con.del, paC, wV, List.length_map, St.mapW] at ha ⊢
  case tmp n =>
    by_cases e : n = t
    · subst e; simp at ha
    · simpa [e] using ha
  case wk =>
    cases hw : σ.wn with
    | false => simp [hw, hXw] at ha
    | true =>
      simp only [hw, if_true, Option.some_or, reduceCtorEq, if_false, Option.map_some, fzN_ones, List.map_append] at ha ⊢
      exact ha
  all_goals exact ha
theorem loop_downW {body : List AV → Heap → (List AV → Heap → Prop) → Prop} {σ : List AV} {h : Heap} (I : Nat → List AV → Heap → Prop) (n : Nat) (h0 : I n σ h)
    (step : ∀ m σ' h' K, I m σ' h' → (∀ m' σ'' h'', m' < m → Wk σ'' h'' (I m') → K σ'' h'') → body σ' h' K) : loopS body σ h := by
  refine ⟨I, Wk.refl ⟨n, h0⟩, ?_⟩
  intro m σ' h' hi hl
  exact step m σ' h' _ hi fun m' σ'' h'' hlt ⟨a, b, c, d, e, f⟩ => ⟨a, b, c, d, e, m', hlt, f⟩
theorem Wk.none {h h' : Heap} {K : List AV → Heap → Prop} {σ : List AV} (hh : HRef h h') (hk : K σ h') : Wk σ h K := ⟨σ, h', hh, rfl, fun _ _ => .refl, hk⟩
section
variable {hb h : Heap} {s : Sch} {bl : List Bool} {σ : St} {l : Lo} {X : Con}
theorem push_loop {F i1 i2 i4 : Nat} {n2 n4 : Node} (R : RC hb (ovl (conS s bl σ l) X) l h) (hX : ∀ a, (∀ n, a ≠ .tmp n) → a ≠ .it → X a = none) (hX3 : X (.tmp 3) = none) (e1 : l (.tmp 1) = i1) (e2 : l (.tmp 2) = i2) (e4 : l (.tmp 4) = i4)
    (h1 : X (.tmp 1) = some (.arr 1 [[.op (l .pa) 0 0]])) (h2 : X (.tmp 2) = some n2) (h4 : X (.tmp 4) = some n4) (hw : ∀ x, x ∈ σ.wk → Fx l X x) (hwn : σ.wn = false → σ.wk = []) {k : Pc} {xs len : AV}
    (hxs : xs = if k ∈ σ.kw then .os (l (.wa k)) (wtOf s σ.bg k).length else .e0) (hlen : len = I ((wtOf s σ.bg k).length : Nat)) (hkw : k ∉ σ.kw → wtOf s σ.bg k = []) (hsz : σ.wk.length + (wtOf s σ.bg k).length ≤ 10000000000000) {E : Heap → Prop}
    (hE : ∀ l' h', (∀ a, a ≠ .wk → a ≠ .tmp 3 → l' a = l a) → RC hb (ovl (conS s bl (σ.push ((wtOf s σ.bg k).map fun q => .fn F [.op i1 0 0, .ro (plC q), .op i4 0 0, .op i2 0 0])) l') X) l' h' → E h') :
    loopS (fun s_95 h_96 K_97 =>
      binA .lss (g s_95 0) len fun x_98 =>
      brA x_98 (idxA 2 xs (g s_95 0) h_96 fun p_99 =>
      loadG 2 p_99 h_96 fun c_100 =>
      newA 2 [(I 0), (I 0)] h_96 fun p_101 h_102 =>
      storeG p_101 [(g c_100 0), (g c_100 1)] h_102 fun h_103 =>
      loadV (.op i1 0 0) h_103 fun x_104 =>
      loadV (.op i1 0 0) h_103 fun x_105 =>
      nilA x_105 <|
      fldA 8 x_105 fun p_106 =>
      loadV p_106 h_103 fun x_107 =>
      oneA (.fn F [.op i1 0 0, p_101, .op i4 0 0, .op i2 0 0]) <|
      appA 1 8 x_107 (.rs 1 [[(.fn F [.op i1 0 0, p_101, .op i4 0 0, .op i2 0 0])]]) h_103 fun x_108 h_109 =>
      (loadV (.op i1 0 0) h_109 fun x_113 =>
      TV.av x_113 = TV.av x_104) ∧
      (nilA x_104 <|
      fldA 8 x_104 fun p_110 =>
      oneA x_108 <|
      storeG p_110 [x_108] h_109 fun h_111 =>
      binA .add (g s_95 0) (I 1) fun x_112 =>
      K_97 [x_112] h_111)) (E h_96)) [(I 0)] h := by
  subst e1; subst e2; subst e4; subst hlen
  generalize hwt : wtOf s σ.bg k = wt at *
  let cl : Pc → AV := fun q => .fn F [.op (l (.tmp 1)) 0 0, .ro (plC q), .op (l (.tmp 4)) 0 0, .op (l (.tmp 2)) 0 0]
  have hXw : X .wk = none := hX _ (by simp) (by simp)
  refine loop_upW wt.length (fun j σ' h' => σ' = [I j] ∧ ∃ l', (∀ a, a ≠ .wk → a ≠ .tmp 3 → l' a = l a) ∧ RC hb (ovl (conS s bl (σ.push ((wt.take j).map cl)) l') X) l' h')
    (Wk.refl ⟨rfl, l, fun _ _ _ => rfl, ?_⟩) (fun k σ' h' ⟨e, _⟩ => by rw [e]; rfl) ?_
  · have : σ.push ((wt.take 0).map cl) = σ := by simp [St.push]
    rw [this]; exact R
  rintro j σ' h' K hj ⟨rfl, l', hl', R'⟩ hK
  by_cases hlt : j < wt.length
  · have hlt' : (j : Int) < wt.length := by omega
    have hk : k ∈ σ.kw := by
      by_cases hk : k ∈ σ.kw
      · exact hk
      · have := hkw hk; subst this; simp at hlt
    have hne : wt ≠ [] := by rintro rfl; simp at hlt
    rw [if_pos hk] at hxs
    subst hxs
    simp only [g_0, w_lss, hlt', decide_true, w_brA, if_true]
    have ewa : h' (l (.wa k)) = some (.arr 2 (wt.map plC)) := by
      have := R'.own (.wa k) (.arr 2 (wt.map plC)) (by simp [ovl, conS, St.push, hk, hwt])
      rwa [hl' _ (by simp) (by simp)] at this
    rw [w_idx_os ewa]
    refine ⟨rfl, by omega, hlt', by simp, ?_⟩
    rw [Int.toNat_natCast, w_loadG_op ewa]
    have egd : (wt.map plC).getD j [] = plC wt[j] := by simp [List.getD_eq_getElem?_getD, hlt]
    rw [egd]
    refine ⟨by simpa using hlt, by omega, ?_⟩
    simp only [List.drop_zero, g_0, g_1]
    intro i3 hi3
    rw [w_store (Heap.set_same _ _ _)]
    refine ⟨by simp, by simp, ?_⟩
    rw [Heap.set_set]
    have esp : ([[I 0, I 0]] : List (List AV)).set 0 (splice (([[I 0, I 0]] : List (List AV)).getD 0 []) 0 [I (wt[j].1 : Nat), I (wt[j].2 : Nat)]) = [plC wt[j]] := rfl
    rw [esp]
    have R1 := R'.mk' (.tmp 3) (.arr 2 [plC wt[j]]) hi3
    have n3 : ∀ a, X a ≠ none → l a ≠ i3 := fun a ha => by
      have h3 : a ≠ .tmp 3 := fun e => ha (e ▸ hX3)
      have h4 : a ≠ .wk := fun e => ha (e ▸ hXw)
      have : ∃ n, ovl (conS s bl (σ.push ((wt.take j).map cl)) l') X a = some n := by
        simp only [ovl]
        cases hc : conS s bl (σ.push ((wt.take j).map cl)) l' a with
        | some n => exact ⟨n, rfl⟩
        | none => cases hh : X a with
          | none => exact absurd hh ha
          | some n => exact ⟨n, rfl⟩
      obtain ⟨n, hn⟩ := this
      have := R'.ne hn hi3
      rwa [hl' a h4 h3] at this
    generalize hh1 : h'.set i3 (.arr 2 [plC wt[j]]) = hA at *
    have x1 : hA (l (.tmp 1)) = some (.arr 1 [[.op (l .pa) 0 0]]) := by
      have := R1.own (.tmp 1) (.arr 1 [[.op (l .pa) 0 0]]) (by simp [Con.set, ovl, conS, h1])
      rwa [Lo.set_ne (by simp), hl' _ (by simp) (by simp)] at this
    have xa : hA (l .pa) = some (.arr 10 [paC s bl (σ.push ((wt.take j).map cl)) l']) := by
      have := R1.own .pa (.arr 10 [paC s bl (σ.push ((wt.take j).map cl)) l']) (by simp [Con.set, ovl, conS])
      rwa [Lo.set_ne (by simp), hl' _ (by simp) (by simp)] at this
    refine ld (x := .op (l .pa) 0 0) x1 (by omega) rfl ?_
    refine rdA x1 xa (by omega) rfl ?_
    rw [w_one_fn]
    have hwl : (σ.push ((wt.take j).map cl)).wk = σ.wk ++ (wt.take j).map cl := rfl
    refine R1.app1 .wk (els := ones (σ.wk ++ (wt.take j).map cl)) ?_ (by simp; omega) fun i h9 R2 => ?_
    · simp only [paC, g_s, g_0, wV]
      cases hwn' : (σ.push ((wt.take j).map cl)).wn with
      | false =>
        refine .inl ⟨by simp, ?_⟩
        simp only [St.push, Bool.or_eq_false_iff, Bool.not_eq_false'] at hwn'
        have h5 := hwn hwn'.1
        have h6 : (wt.take j).map cl = [] := by simpa using hwn'.2
        rw [h5, h6]; rfl
      | true =>
        refine .inr ⟨(σ.push ((wt.take j).map cl)).wk.length, ones ((σ.push ((wt.take j).map cl)).wk ++ (σ.push ((wt.take j).map cl)).jk), ?_, ?_, ?_, ?_⟩
        · rw [Lo.set_ne (by simp)]; simp
        · rw [Con.set_ne (by simp)]; simp only [ovl, conS, hwn', if_true, Option.some_or]
        · simp
        · have e5 : (σ.push ((wt.take j).map cl)).wk = σ.wk ++ (wt.take j).map cl := rfl
          rw [← e5, ones_app, ← ones_len, List.take_left]
    have y1 : h9 (l (.tmp 1)) = some (.arr 1 [[.op (l .pa) 0 0]]) := by
      have := R2.own (.tmp 1) (.arr 1 [[.op (l .pa) 0 0]]) (by simp [Con.set, ovl, conS, h1])
      rwa [Lo.set_ne (by simp), Lo.set_ne (by simp), hl' _ (by simp) (by simp)] at this
    have ya : h9 (l .pa) = some (.arr 10 [paC s bl (σ.push ((wt.take j).map cl)) l']) := by
      have := R2.own .pa (.arr 10 [paC s bl (σ.push ((wt.take j).map cl)) l']) (by simp [Con.set, ovl, conS])
      rwa [Lo.set_ne (by simp), Lo.set_ne (by simp), hl' _ (by simp) (by simp)] at this
    refine ⟨ld (x := .op (l .pa) 0 0) y1 (by omega) rfl rfl, ?_⟩
    rw [w_nil_op, w_fld_op, w_one_os, w_store ya]
    refine ⟨by simp, by simp, ?_⟩
    rw [w_add, wrap_k (k := j) (by omega)]
    have R3 := R2.upd (a := .pa) (.arr 10 [(paC s bl (σ.push ((wt.take j).map cl)) l').set 8 (.os i ((ones (σ.wk ++ (wt.take j).map cl)).length + 1))]) (m := .arr 10 [paC s bl (σ.push ((wt.take j).map cl)) l']) (by simp [Con.set, ovl, conS])
    rw [show ((l'.set (.tmp 3) i3).set .wk i) .pa = l .pa by rw [Lo.set_ne (by simp), Lo.set_ne (by simp), hl' _ (by simp) (by simp)]] at R3
    obtain ⟨hz, hz1, hz2⟩ := R3.freeze (t := .tmp 3) (sz := 2) (cs := plC wt[j]) (by simp [Con.set]) rfl (by simp) (fun els he => by
      have : els = ones (σ.wk ++ (wt.take j).map cl) ++ [[.fn F [.op (l (.tmp 1)) 0 0, .op i3 0 0, .op (l (.tmp 4)) 0 0, .op (l (.tmp 2)) 0 0]]] := by
        rw [Con.set_ne (by simp), Con.set_same] at he
        cases he; rfl
      rw [this, ← ones_one, ← ones_app]
      exact ones_sz _)
    refine hK hlt _ _ (Wk.none hz1 ⟨rfl, (l'.set (.tmp 3) i3).set .wk i, fun a ha hb => by rw [Lo.set_ne ha, Lo.set_ne hb]; exact hl' a ha hb, hz2.weak fun a n ha => ?_⟩)
    have ei3 : ((l'.set (.tmp 3) i3).set .wk i) (.tmp 3) = i3 := by rw [Lo.set_ne (by simp), Lo.set_same]
    rw [ei3]
    have etk : wt.take (j + 1) = wt.take j ++ [wt[j]] := List.take_succ_eq_append_getElem hlt
    cases a
    case wk =>
      have hc : ovl (conS s bl (σ.push ((wt.take (j + 1)).map cl)) ((l'.set (.tmp 3) i3).set .wk i)) X .wk = some (.arr 1 (ones (σ.wk ++ (wt.take j).map cl ++ [cl wt[j]]))) := by
        have e8 : (σ.push ((wt.take (j + 1)).map cl)).wn = true := by rw [etk]; simp [St.push, hne]
        have e9 : (σ.push ((wt.take (j + 1)).map cl)).jk = [] := by rw [etk]; simp [St.push, hne]
        simp only [ovl, conS, e8, e9, if_true, Option.some_or, List.append_nil]
        rw [etk, List.map_append, List.map_cons, List.map_nil]
        simp only [St.push, List.append_assoc]
      rw [hc] at ha
      cases ha
      have q1 : (ones (σ.wk ++ (wt.take j).map cl) ++ [[.fn F [.op (l (.tmp 1)) 0 0, .op i3 0 0, .op (l (.tmp 4)) 0 0, .op (l (.tmp 2)) 0 0]]] : List (List AV)) = ones (σ.wk ++ (wt.take j).map cl ++ [.fn F [.op (l (.tmp 1)) 0 0, .op i3 0 0, .op (l (.tmp 4)) 0 0, .op (l (.tmp 2)) 0 0]]) := by
        rw [ones_app _ [_], ones_app, ones_one]
      simp only [Con.fz, Con.set, reduceCtorEq, if_false, if_true, Option.map_some, q1, fzN_ones]
      congr 3
      rw [List.map_append]
      congr 1
      · refine (List.map_congr_left fun x hx => ?_).trans (List.map_id _)
        rcases List.mem_append.1 hx with hx | hx
        · exact (hw x hx).fz n3
        · obtain ⟨q, _, rfl⟩ := List.mem_map.1 hx
          refine Fx.fz (l := l) (X := X) ⟨F, _, rfl, fun y hy => ?_⟩ n3
          simp only [List.mem_cons, List.not_mem_nil, or_false] at hy
          rcases hy with rfl | rfl | rfl | rfl
          · exact .inr ⟨_, by rw [h1]; simp, rfl⟩
          · exact .inl ⟨_, rfl⟩
          · exact .inr ⟨_, by rw [h4]; simp, rfl⟩
          · exact .inr ⟨_, by rw [h2]; simp, rfl⟩
      · have m1 := n3 (.tmp 1) (by rw [h1]; simp)
        have m2 := n3 (.tmp 2) (by rw [h2]; simp)
        have m4 := n3 (.tmp 4) (by rw [h4]; simp)
        simp [fzW, fzA, m1, m2, m4, cl]
    case pa =>
      have hc : ovl (conS s bl (σ.push ((wt.take (j + 1)).map cl)) ((l'.set (.tmp 3) i3).set .wk i)) X .pa = some (.arr 10 [(paC s bl (σ.push ((wt.take j).map cl)) l').set 8 (.os i ((ones (σ.wk ++ (wt.take j).map cl)).length + 1))]) := by
        simp only [ovl, conS, Option.some_or]
        have e7 : wV (σ.push ((wt.take (j + 1)).map cl)) ((l'.set (.tmp 3) i3).set .wk i) = .os i ((ones (σ.wk ++ (wt.take j).map cl)).length + 1) := by
          have e8 : (σ.push ((wt.take (j + 1)).map cl)).wn = true := by rw [etk]; simp [St.push, hne]
          simp only [wV, e8, if_true, Lo.set_same]
          rw [etk]; simp [St.push]; omega
        have e9 : CSl s ((l'.set (.tmp 3) i3).set .wk i) = CSl s l' := by simp [CSl, Lo.set]
        simp only [paC, e7, e9]
        rfl
      rw [hc] at ha
      simpa [Con.fz, Con.set] using ha
    case tmp n =>
      by_cases e : n = 3
      · subst e; simp [ovl, conS, hX3] at ha
      · simpa [Con.fz, Con.set, e, ovl, conS] using ha
    all_goals first | (simp [ovl, conS, hX] at ha; done) | simpa [Con.fz, Con.set, ovl, conS, St.push, Lo.set, hX] using ha
  · have hjn : j = wt.length := by omega
    subst hjn
    simp only [g_0, w_lss, Int.lt_irrefl, decide_false, w_brA, Bool.false_eq_true, if_false]
    rw [List.take_length] at R'
    exact hE l' h' hl' R'
end
end Am
set_option linter.unusedVariables false
set_option linter.unusedSimpArgs false
namespace Am
open Go Go.Proofs.Tryz
def Fz0 (x : AV) : Prop := ∃ f caps, x = .fn f caps ∧ ∀ y, y ∈ caps → ∃ cs, y = .ro cs
theorem Fz0.fx {x : AV} (H : Fz0 x) (l : Lo) (X : Con) : Fx l X x := by
  obtain ⟨f, caps, e, h⟩ := H
  exact ⟨f, caps, e, fun y hy => .inl (h y hy)⟩
theorem Fz0.fz {x : AV} (H : Fz0 x) (id : Nat) (cs : List AV) : fzW id cs x = x :=
  Fx.fz (l := fun _ => id + 1) (X := fun _ => none) (H.fx _ _) fun a ha => absurd rfl ha
structure StOk (s : Sch) (σ : St) : Prop where
  bgn : σ.bg.Nodup
  hln : σ.hl.Nodup
  cln : σ.cl.Nodup
  kwn : σ.kw.Nodup
  kin : σ.ki.Nodup
  kw : ∀ k, k ∈ σ.kw ↔ wtOf s σ.bg k ≠ []
  ki : ∀ p, p ∈ σ.ki ↔ pick2 σ.cl p ≠ []
  hlb : ∀ e, e ∈ σ.hl → e.1 ∈ σ.bg
  bgo : ∀ p, p ∈ σ.bg → okP s p
  wn : σ.wn = false → σ.wk = []
  wf : ∀ x, x ∈ σ.wk → Fz0 x
  jf : ∀ x, x ∈ σ.jk → Fz0 x
def clC (F P n : Nat) (x : Pc × Pc) : AV := .fn F [.ro [.op P 0 0], .ro (plC x.2), .ro (plC x.1), .ro [I (n : Nat)]]
theorem clC_fz (F P n : Nat) (x : Pc × Pc) : Fz0 (clC F P n x) := ⟨F, _, rfl, fun y hy => by
  simp only [List.mem_cons, List.not_mem_nil, or_false] at hy
  rcases hy with rfl | rfl | rfl | rfl <;> exact ⟨_, rfl⟩⟩
def nA (s : Sch) (p : Pc) : Nat := (ndS s p).2.length
def Come (s : Sch) (P : Nat) (σ : St) (k p : Pc) (σ' : St) : Prop :=
  ((k, p) ∈ σ.cl ∧ σ' = σ) ∨ ((k, p) ∉ σ.cl ∧ ∃ ps : List (Pc × Pc), (∀ x, x ∈ ps ↔ x.1 ∈ pick σ.hl p ∧ x.2 ∈ wtOf s σ.bg k) ∧ ps.length = (pick σ.hl p).length * (wtOf s σ.bg k).length ∧
    σ' = ({ σ with cl := σ.cl ++ [(k, p)], ki := insK σ.ki p } : St).push (ps.map (clC 208 P (nA s p))))
theorem RC.drop1 {hb h : Heap} {c : Con} {l : Lo} {a : Ad} {n : Node} {i : Nat} (R : RC hb (c.set a n) (l.set a i) h) (ha : c a = none) : RC hb c l h :=
  R.congr fun b m hb => by
    have : b ≠ a := fun e => by subst e; rw [ha] at hb; cases hb
    exact ⟨by rw [Con.set_ne this]; exact hb, by rw [Lo.set_ne this]⟩
theorem CSl_len (s : Sch) (l : Lo) : (CSl s l).length = s.funs.length := by simp [CSl]
theorem CSl_get {s : Sch} (l : Lo) {f : Nat} (hf : f < s.funs.length) : (CSl s l).getD f [] = [.rs 1 ((List.range (ar s f)).map fun i => [.mp (l (.cm (f, i)))])] := by
  simp [CSl, List.getD_eq_getElem?_getD, hf]
theorem NS_len (s : Sch) : (NS s).length = s.funs.length := by simp [NS]
theorem NS_get {s : Sch} {f : Nat} (hf : f < s.funs.length) : (NS s).getD f [] = [.rs 2 (ndCs (ndF 0 (s.funs.getD f default).body))] := by
  simp [NS, List.getD_eq_getElem?_getD, hf]
theorem nd_get {s : Sch} {p : Pc} (hp : okP s p) : (ndCs (ndF 0 (s.funs.getD p.1 default).body)).getD p.2 [] = ndC (ndS s p) := by
  have : p.2 < (ndF 0 (s.funs.getD p.1 default).body).length := by rw [ndF_len]; exact hp.2
  rw [ndCs_get this, ndS]
  generalize ndF 0 (s.funs.getD p.1 default).body = L at *
  simp [List.getD_eq_getElem?_getD, this]
theorem mp_true {ks : List Pc} {p : Pc} (hp : p ∉ ks) : mpN (insK ks p) (updV (fun _ => B true) p (B true)) = mpN (ks ++ [p]) fun _ => B true := by
  have : updV (fun _ => B true) p (B true) = fun _ => B true := by funext q; simp [updV]
  rw [this, insK, if_neg hp]
section
variable {hb h : Heap} {s : Sch} {bl : List Bool} {σ : St} {l : Lo}
theorem rd_cm {i1 : Nat} {L : List AV} {k : Pc} (h1 : h i1 = some (.arr 1 [[.op (l .pa) 0 0]])) (ha : h (l .pa) = some (.arr 10 [L])) (h3 : g L 3 = .rs 1 (CSl s l)) (hk : okK s k) {K : AV → Prop} (hq : K (.mp (l (.cm k)))) :
    loadV (.op i1 0 0) h fun a => nilA a <| fldA 3 a fun p => loadV p h fun x => idxA 1 x (I (k.1 : Nat)) h fun q => loadV q h fun y => idxA 1 y (I (k.2 : Nat)) h fun r => loadV r h K := by
  refine rdA h1 ha (by omega) h3 ?_
  refine ix_rs (by rw [CSl_len]; exact hk.1) (CSl_get l hk.1) ?_
  rw [w_loadV_ro]
  have hk2 : k.2 < ar s k.1 := hk.2
  refine ix_rs (cs := [.mp (l (.cm k))]) (by simpa using hk2) (by simp [List.getD_eq_getElem?_getD, hk2]) ?_
  rw [w_loadV_ro]
  exact hq
theorem rd_nd {i1 : Nat} {P : Nat} {L : List AV} {p : Pc} (h1 : h i1 = some (.arr 1 [[.op P 0 0]])) (ha : h P = some (.arr 10 [L])) (h3 : g L 2 = .rs 1 (NS s)) (hp : okP s p) {K : AV → AV → AV → AV → AV → AV → AV → AV → Prop}
    (hq : K (.op P 0 0) (.op P 0 2) (.rs 1 (NS s)) (.ro [.rs 2 (ndCs (ndF 0 (s.funs.getD p.1 default).body))]) (.rs 2 (ndCs (ndF 0 (s.funs.getD p.1 default).body))) (.ro (ndC (ndS s p))) (.ro [.rs 1 (nCs (ndS s p).2)]) (.rs 1 (nCs (ndS s p).2))) :
    loadV (.op i1 0 0) h fun a => nilA a <| fldA 2 a fun b => loadV b h fun x => idxA 1 x (I (p.1 : Nat)) h fun q => loadV q h fun y => idxA 2 y (I (p.2 : Nat)) h fun r => fldA 1 r fun t => loadV t h fun z => K a b x q y r t z := by
  refine rdA h1 ha (by omega) h3 ?_
  refine ix_rs (by rw [NS_len]; exact hp.1) (NS_get hp.1) ?_
  rw [w_loadV_ro]
  refine ix_rs (by rw [ndCs_len, ndF_len]; exact hp.2) (nd_get hp) ?_
  simp only [ndC, w_fld_ro, List.drop_succ_cons, List.drop_zero, w_loadV_ro]
  exact hq
theorem len_wt {k : Pc} (V : StOk s σ) {K : AV → Prop} {i : Nat} (hq : K (I ((wtOf s σ.bg k).length : Nat))) : lenA (if k ∈ σ.kw then .os i (wtOf s σ.bg k).length else .e0) K := by
  by_cases e : k ∈ σ.kw
  · rw [if_pos e]; exact hq
  · rw [if_neg e]
    have : wtOf s σ.bg k = [] := by
      have := mt (V.kw k).2 e
      simpa using this
    rw [this] at hq; exact hq
theorem len_ia {p : Pc} (V : StOk s σ) {K : AV → Prop} {i : Nat} (hq : K (I ((pick2 σ.cl p).length : Nat))) : lenA (if p ∈ σ.ki then .os i (pick2 σ.cl p).length else .e0) K := by
  by_cases e : p ∈ σ.ki
  · rw [if_pos e]; exact hq
  · rw [if_neg e]
    have : pick2 σ.cl p = [] := by
      have := mt (V.ki p).2 e
      simpa using this
    rw [this] at hq; exact hq
end
theorem tp0 {x : AV} {xs : List AV} {K : AV → Prop} (hk : K x) : tupA (.tup (x :: xs)) 0 K := by
  rw [w_tup]; exact ⟨by simp, by simpa using hk⟩
theorem tp1 {x y : AV} {xs : List AV} {K : AV → Prop} (hk : K y) : tupA (.tup (x :: y :: xs)) 1 K := by
  rw [w_tup]; exact ⟨by simp, by simpa using hk⟩
theorem st_at {h : Heap} {P z n : Nat} {cs : List AV} {x : AV} {K : Heap → Prop} (hh : h P = some (.arr z [cs])) (hn : n < z) (hk : K (h.set P (.arr z [cs.set n x]))) : storeG (.op P 0 n) [x] h K := by
  rw [w_store hh]
  exact ⟨by simp, by simp only [List.length_cons, List.length_nil]; omega, hk⟩
def Con.nil : Con := fun _ => none
section
variable {hb h : Heap} {s : Sch} {bl : List Bool} {σ : St} {l : Lo}
theorem come_c (V : StOk s σ) (R : RC hb (conS s bl σ l) l h) {k p : Pc} (hk : okK s k) (hp : okP s p) (hpb : p ∈ σ.bg) (hs1 : σ.cl.length ≤ 1000000) (hs2 : σ.wk.length + (pick σ.hl p).length * (wtOf s σ.bg k).length ≤ 10000000000000) {Q : AV → Heap → Prop}
    (hq : ∀ σ' l' h', Come s (l .pa) σ k p σ' → l' .pa = l .pa → RC hb (conS s bl σ' l') l' h' → Q (.tup []) h') : ACalls prog n_flow_analysis_come [.op (l .pa) 0 0, I (k.1 : Nat), I (k.2 : Nat), kC p] h Q := by
  refine ACalls.wk ?_
  refine flow_analysis_come_call ?_
  unfold flow_analysis_come
  rw [w_one_op]
  intro i1 hi1
  simp only [w_agg, List.length_cons, List.length_nil, true_and, g_0, g_1]
  have R1 := R.mk' (.tmp 1) (.arr 1 [[.op (l .pa) 0 0]]) hi1
  generalize h.set i1 (.arr 1 [[.op (l .pa) 0 0]]) = h2 at *
  generalize hl1 : l.set (.tmp 1) i1 = l1 at *
  have epa : l1 .pa = l .pa := by rw [← hl1, Lo.set_ne (by simp)]
  have x1 : h2 i1 = some (.arr 1 [[.op (l .pa) 0 0]]) := by
    have := R1.own (.tmp 1) _ (Con.set_same _ _ _)
    rwa [← hl1, Lo.set_same] at this
  have xa : h2 (l .pa) = some (.arr 10 [paC s bl σ l]) := by
    have := R1.own .pa (.arr 10 [paC s bl σ l]) rfl
    rwa [epa] at this
  have ek : okK s k ↔ True := by simp [hk]
  have xc : h2 (l (.cm k)) = some (mpN (pick σ.cl k) fun _ => B true) := by
    have := R1.own (.cm k) (mpN (pick σ.cl k) fun _ => B true) (by simp [Con.set, conS, hk])
    rwa [← hl1, Lo.set_ne (by simp)] at this
  refine rd_cm x1 xa rfl hk ?_
  refine look_c xc ?_
  by_cases hin : (k, p) ∈ σ.cl
  · simp only [mem_pick, hin, if_true, w_brA]
    exact retA_of (Wk.refl (hq σ l h2 (.inl ⟨hin, rfl⟩) rfl (RC.drop1 (by rw [hl1]; exact R1) rfl)))
  simp only [mem_pick, hin, if_false, w_brA, Bool.false_eq_true]
  refine rd_cm x1 xa rfl hk ?_
  refine upd_c (pick_nodup V.cln k) xc ?_
  rw [mp_true (by simpa using hin)]
  have R2 := R1.upd (a := .cm k) (mpN (pick σ.cl k ++ [p]) fun _ => B true) (m := mpN (pick σ.cl k) fun _ => B true) (by simp [Con.set, conS, hk])
  rw [show l1 (.cm k) = l (.cm k) by rw [← hl1, Lo.set_ne (by simp)]] at R2
  generalize h2.set (l (.cm k)) (mpN (pick σ.cl k ++ [p]) fun _ => B true) = h3 at *
  have x1 : h3 i1 = some (.arr 1 [[.op (l .pa) 0 0]]) := by
    have := R2.own (.tmp 1) (.arr 1 [[.op (l .pa) 0 0]]) (by simp [Con.set])
    rwa [← hl1, Lo.set_same] at this
  have xa : h3 (l .pa) = some (.arr 10 [paC s bl σ l]) := by
    have := R2.own .pa (.arr 10 [paC s bl σ l]) (by simp [Con.set, conS])
    rwa [epa] at this
  have xi : h3 (l .mi) = some (mpN σ.ki fun p => .os (l (.ia p)) (pick2 σ.cl p).length) := by
    have := R2.own .mi (mpN σ.ki fun p => .os (l (.ia p)) (pick2 σ.cl p).length) (by simp [Con.set, conS])
    rwa [show l1 .mi = l .mi by rw [← hl1, Lo.set_ne (by simp)]] at this
  refine rdA x1 xa (by omega) rfl ?_
  rw [w_one_v, w_one_v]
  refine ent_c V.kin xi fun ix hix hixk => ?_
  refine tp0 (tp1 ?_)
  generalize ev0 : (if p ∈ σ.ki then AV.os (l (.ia p)) (pick2 σ.cl p).length else .e0) = v0 at *
  have R3 := R2.upd (a := .mi) (mpN (insK σ.ki p) (updV (fun p => .os (l (.ia p)) (pick2 σ.cl p).length) p v0)) (m := mpN σ.ki fun p => .os (l (.ia p)) (pick2 σ.cl p).length) (by simp [Con.set, conS])
  rw [show l1 .mi = l .mi by rw [← hl1, Lo.set_ne (by simp)]] at R3
  generalize h3.set (l .mi) (mpN (insK σ.ki p) (updV (fun p => .os (l (.ia p)) (pick2 σ.cl p).length) p v0)) = h4 at *
  have hpl : (pick2 σ.cl p).length ≤ σ.cl.length := by
    simp only [pick2, List.length_map]; exact List.length_filter_le _ _
  refine R3.app1 (.ia p) (els := (pick2 σ.cl p).map plC) ?_ (by simp; omega) fun i4 h5 R4 => ?_
  · rw [← ev0]
    by_cases e : p ∈ σ.ki
    · exact .inr ⟨_, (pick2 σ.cl p).map plC, by rw [if_pos e, ← hl1, Lo.set_ne (by simp)], by simp [Con.set, conS, e], by simp, by rw [List.take_of_length_le (by simp)]⟩
    · have : pick2 σ.cl p = [] := by
        have := mt (V.ki p).2 e
        simpa using this
      exact .inl ⟨by rw [if_neg e], by rw [this]; rfl⟩
  rw [w_one_os]
  have xi : h5 (l .mi) = some (mpN (insK σ.ki p) (updV (fun p => .os (l (.ia p)) (pick2 σ.cl p).length) p v0)) := by
    have := R4.own .mi (mpN (insK σ.ki p) (updV (fun p => .os (l (.ia p)) (pick2 σ.cl p).length) p v0)) (by simp [Con.set])
    rwa [Lo.set_ne (by simp), show l1 .mi = l .mi by rw [← hl1, Lo.set_ne (by simp)]] at this
  refine entS_c (insK_nodup V.kin) xi hix hixk ?_
  simp only [List.length_map]
  have R5 := R4.upd (a := .mi) (mpN (insK σ.ki p) (updV (updV (fun p => .os (l (.ia p)) (pick2 σ.cl p).length) p v0) p (.os i4 ((pick2 σ.cl p).length + 1)))) (m := mpN (insK σ.ki p) (updV (fun p => .os (l (.ia p)) (pick2 σ.cl p).length) p v0)) (by simp [Con.set])
  rw [Lo.set_ne (by simp), show l1 .mi = l .mi by rw [← hl1, Lo.set_ne (by simp)]] at R5
  generalize h5.set (l .mi) (mpN (insK σ.ki p) (updV (updV (fun p => .os (l (.ia p)) (pick2 σ.cl p).length) p v0) p (.os i4 ((pick2 σ.cl p).length + 1)))) = h6 at *
  have x1 : h6 i1 = some (.arr 1 [[.op (l .pa) 0 0]]) := by
    have := R5.own (.tmp 1) (.arr 1 [[.op (l .pa) 0 0]]) (by simp [Con.set])
    rwa [Lo.set_ne (by simp), ← hl1, Lo.set_same] at this
  have xa : h6 (l .pa) = some (.arr 10 [paC s bl σ l]) := by
    have := R5.own .pa (.arr 10 [paC s bl σ l]) (by simp [Con.set, conS])
    rwa [Lo.set_ne (by simp), epa] at this
  refine rdA (x := I (σ.cl.length : Nat)) x1 xa (by omega) rfl ?_
  rw [w_add, show IntKind.i64.wrap ((σ.cl.length : Int) + 1) = ((σ.cl.length + 1 : Nat) : Int) from wrap_k (by omega)]
  rw [w_nil_op, w_fld_op, w_one_v, Nat.zero_add]
  refine st_at xa (by omega) ?_
  have R6 := R5.upd (a := .pa) (.arr 10 [(paC s bl σ l).set 9 (I (σ.cl.length + 1 : Nat))]) (m := .arr 10 [paC s bl σ l]) (by simp [Con.set, conS])
  rw [Lo.set_ne (by simp), epa] at R6
  generalize h6.set (l .pa) (.arr 10 [(paC s bl σ l).set 9 (I (σ.cl.length + 1 : Nat))]) = h7 at *
  have x1 : h7 i1 = some (.arr 1 [[.op (l .pa) 0 0]]) := by
    have := R6.own (.tmp 1) (.arr 1 [[.op (l .pa) 0 0]]) (by simp [Con.set])
    rwa [Lo.set_ne (by simp), ← hl1, Lo.set_same] at this
  have xa : h7 (l .pa) = some (.arr 10 [(paC s bl σ l).set 9 (I (σ.cl.length + 1 : Nat))]) := by
    have := R6.own .pa (.arr 10 [(paC s bl σ l).set 9 (I (σ.cl.length + 1 : Nat))]) (by simp [Con.set])
    rwa [Lo.set_ne (by simp), epa] at this
  refine rd_nd x1 xa rfl hp ?_
  rw [w_len_rs, nCs_len]
  intro i2 hi2
  have R7a := R6.mk' (.tmp 2) (.arr 1 [[I 0]]) hi2
  have x1 : (h7.set i2 (.arr 1 [[I 0]])) i1 = some (.arr 1 [[.op (l .pa) 0 0]]) := by
    have := R7a.own (.tmp 1) (.arr 1 [[.op (l .pa) 0 0]]) (by simp [Con.set])
    rwa [Lo.set_ne (by simp), Lo.set_ne (by simp), ← hl1, Lo.set_same] at this
  have xa : (h7.set i2 (.arr 1 [[I 0]])) (l .pa) = some (.arr 10 [(paC s bl σ l).set 9 (I (σ.cl.length + 1 : Nat))]) := by
    have := R7a.own .pa (.arr 10 [(paC s bl σ l).set 9 (I (σ.cl.length + 1 : Nat))]) (by simp [Con.set])
    rwa [Lo.set_ne (by simp), Lo.set_ne (by simp), epa] at this
  refine ⟨ld x1 (by omega) rfl rfl, ld xa (by omega) rfl rfl, ix_rs (by rw [NS_len]; exact hp.1) (NS_get hp.1) rfl, by rw [w_loadV_ro], ix_rs (by rw [ndCs_len, ndF_len]; exact hp.2) (nd_get hp) rfl, by rw [w_loadV_ro], ?_⟩
  rw [w_one_v]
  refine st_at (Heap.set_same _ _ _) (by omega) ?_
  rw [Heap.set_set]
  have R7 := R6.mk' (.tmp 2) (.arr 1 [[I (nA s p : Nat)]]) hi2
  clear R7a x1 xa
  have est : ([I 0] : List AV).set 0 (I (((ndS s p).2.length : Nat) : Int)) = [I (nA s p : Nat)] := rfl
  rw [est]
  generalize h7.set i2 (.arr 1 [[I (nA s p : Nat)]]) = h8 at *
  generalize hl7 : (l1.set (.ia p) i4).set (.tmp 2) i2 = l7 at *
  have l7n : ∀ a, (∀ n, a ≠ .tmp n) → (∀ q, a ≠ .ia q) → l7 a = l a := fun a ha hb => by
    rw [← hl7, Lo.set_ne (ha 2), Lo.set_ne (hb p), ← hl1, Lo.set_ne (ha 1)]
  have l71 : l7 (.tmp 1) = i1 := by rw [← hl7, Lo.set_ne (by simp), Lo.set_ne (by simp), ← hl1, Lo.set_same]
  have l72 : l7 (.tmp 2) = i2 := by rw [← hl7, Lo.set_same]
  have x1 : h8 i1 = some (.arr 1 [[.op (l .pa) 0 0]]) := by
    have := R7.own (.tmp 1) (.arr 1 [[.op (l .pa) 0 0]]) (by simp [Con.set])
    rwa [l71] at this
  have xa : h8 (l .pa) = some (.arr 10 [(paC s bl σ l).set 9 (I (σ.cl.length + 1 : Nat))]) := by
    have := R7.own .pa (.arr 10 [(paC s bl σ l).set 9 (I (σ.cl.length + 1 : Nat))]) (by simp [Con.set])
    rwa [l7n _ (by simp) (by simp)] at this
  have xh : h8 (l .mh) = some (mpN σ.bg fun p => .mp (l (.hm p))) := by
    have := R7.own .mh (mpN σ.bg fun p => .mp (l (.hm p))) (by simp [Con.set, conS])
    rwa [l7n _ (by simp) (by simp)] at this
  have xm : h8 (l (.hm p)) = some (mpN (pick σ.hl p) fun _ => B true) := by
    have := R7.own (.hm p) (mpN (pick σ.hl p) fun _ => B true) (by simp [Con.set, conS, hpb])
    rwa [l7n _ (by simp) (by simp)] at this
  refine rdA x1 xa (by omega) rfl ?_
  refine look_c (ks := σ.bg) (v := fun p => .mp (l (.hm p))) xh ?_
  rw [if_pos hpb]
  refine range_c xm fun it hit => ?_
  have R8 := R7.mk' .it (.iter (l (.hm p)) (pick σ.hl p).length (List.range (pick σ.hl p).length) none) hit
  clear x1 xa xh xm
  generalize h8.set it (.iter (l (.hm p)) (pick σ.hl p).length (List.range (pick σ.hl p).length) none) = h9 at *
  generalize hl8 : l7.set .it it = l8 at *
  have l8n : ∀ a, (∀ n, a ≠ .tmp n) → (∀ q, a ≠ .ia q) → a ≠ .it → l8 a = l a := fun a ha hb hc => by
    rw [← hl8, Lo.set_ne hc]; exact l7n a ha hb
  have l81 : l8 (.tmp 1) = i1 := by rw [← hl8, Lo.set_ne (by simp), l71]
  have l82 : l8 (.tmp 2) = i2 := by rw [← hl8, Lo.set_ne (by simp), l72]
  have l8i : l8 .it = it := by rw [← hl8, Lo.set_same]
  have l8a : ∀ q, l8 (.ia q) = if q = p then i4 else l (.ia q) := fun q => by
    rw [← hl8, Lo.set_ne (by simp), ← hl7, Lo.set_ne (by simp)]
    by_cases e : q = p
    · subst e; rw [if_pos rfl, Lo.set_same]
    · rw [if_neg e, Lo.set_ne (by simpa using e), ← hl1, Lo.set_ne (by simp)]
  generalize ehs : pick σ.hl p = hs at *
  let σ2 : St := { σ with cl := σ.cl ++ [(k, p)], ki := insK σ.ki p }
  let X : List Nat → Option Nat → Con := fun left cur => ((Con.nil.set (.tmp 1) (.arr 1 [[.op (l .pa) 0 0]])).set (.tmp 2) (.arr 1 [[I (nA s p : Nat)]])).set .it (.iter (l (.hm p)) hs.length left cur)
  have R9 : RC hb (ovl (conS s bl σ2 l8) (X (List.range hs.length) none)) l8 h9 := R8.weak fun a n ha => by
    clear hq R R1 R2 R3 R4 R5 R6 R7 R8
    cases a with
    | pa =>
      have e : conS s bl σ2 l8 .pa = some (.arr 10 [(paC s bl σ l).set 9 (I (σ.cl.length + 1 : Nat))]) := by
        simp [conS, paC, σ2, wV, CSl, l8n]
      simp only [ovl, e] at ha
      simpa [Con.set] using ha
    | mi =>
      have e : conS s bl σ2 l8 .mi = some (mpN (insK σ.ki p) (updV (updV (fun p => .os (l (.ia p)) (pick2 σ.cl p).length) p v0) p (.os i4 ((pick2 σ.cl p).length + 1)))) := by
        simp only [conS, σ2]
        congr 2
        funext q
        rw [l8a, pick2_snoc]
        by_cases e : q = p
        · subst e; simp [updV]
        · have e' : ¬ p = q := fun h => e h.symm
          simp [updV, e, e']
      simp only [ovl, e] at ha
      simpa [Con.set] using ha
    | ia q =>
      by_cases e : q = p
      · subst e
        simp only [ovl, conS, σ2, insK_mem, or_true, if_true, pick2_snoc] at ha
        simpa [Con.set] using ha
      · have e' : ¬ p = q := fun h => e h.symm
        by_cases e2 : q ∈ σ.ki
        · simp only [ovl, conS, σ2, insK_mem, e2, true_or, if_true, pick2_snoc, e', if_false] at ha
          simpa [Con.set, conS, e, e2] using ha
        · simp [ovl, conS, σ2, e2, e, X, Con.set, Con.nil] at ha
    | cm k' =>
      by_cases e : k' = k
      · subst e
        simp only [ovl, conS, σ2, hk, if_true, pick_snoc] at ha
        simpa [Con.set] using ha
      · have e' : ¬ k = k' := fun h => e h.symm
        simp only [ovl, conS, σ2, pick_snoc, e', if_false] at ha
        have e3 : Con.set Con.nil (.tmp 1) (.arr 1 [[.op (l .pa) 0 0]]) (.cm k') = none := by simp [Con.set, Con.nil]
        by_cases e2 : okK s k'
        · simp only [e2, if_true] at ha
          simpa [Con.set, conS, e, e2] using ha
        · simp [e2, X, Con.set, Con.nil] at ha
    | tmp n => simpa [ovl, conS, X, Con.set, Con.nil] using ha
    | it => simpa [ovl, conS, X, Con.set, Con.nil] using ha
    | mh => simpa [ovl, conS, σ2, Con.set, l8n] using ha
    | mw => simpa [ovl, conS, σ2, Con.set, l8n] using ha
    | hm q =>
      by_cases e2 : q ∈ σ.bg
      · simpa [ovl, conS, σ2, Con.set, e2] using ha
      · simp [ovl, conS, σ2, e2, X, Con.set, Con.nil] at ha
    | wa q =>
      by_cases e2 : q ∈ σ.kw
      · simpa [ovl, conS, σ2, Con.set, e2] using ha
      · simp [ovl, conS, σ2, e2, X, Con.set, Con.nil] at ha
    | wk =>
      by_cases e2 : σ.wn = true
      · simpa [ovl, conS, σ2, Con.set, e2] using ha
      · simp [ovl, conS, σ2, e2, X, Con.set, Con.nil] at ha
    | nb => simp [ovl, conS, X, Con.set, Con.nil] at ha
    | cb => simp [ovl, conS, X, Con.set, Con.nil] at ha
    | cs f => simp [ovl, conS, X, Con.set, Con.nil] at ha
  clear R R1 R2 R3 R4 R5 R6 R7 R8
  let clo : Pc × Pc → AV := fun x => .fn 208 [.op i1 0 0, .ro (plC x.2), .ro (plC x.1), .op i2 0 0]
  generalize ewt : wtOf s σ.bg k = wt at *
  have hjf : ∀ id cs x, x ∈ σ2.jk → fzW id cs x = x := fun id cs x hx => (V.jf x hx).fz id cs
  have hwf : ∀ id cs x, x ∈ σ2.wk → fzW id cs x = x := fun id cs x hx => (V.wf x hx).fz id cs
  refine loop_downW (fun m σ' h' => σ' = [] ∧ ∃ left cur ps l', m = left.length ∧ left.Nodup ∧ (∀ i, i ∈ left → i < hs.length) ∧ (∀ x, x ∈ ps ↔ (∃ i, ∃ hi : i < hs.length, i ∉ left ∧ hs[i] = x.1) ∧ x.2 ∈ wt) ∧ ps.length + left.length * wt.length = hs.length * wt.length ∧
      (∀ a, a ≠ .wk → a ≠ .tmp 3 → a ≠ .tmp 4 → l' a = l8 a) ∧ RC hb (ovl (conS s bl (σ2.push (ps.map clo)) l') (X left cur)) l' h') hs.length ⟨rfl, List.range hs.length, none, [], l8, by simp, List.nodup_range, by simp, fun x => ⟨fun h => by (cases h), fun ⟨⟨i, hi, hn, _⟩, _⟩ => absurd (List.mem_range.2 hi) hn⟩, by simp, fun _ _ _ _ => rfl, by simpa using R9⟩ ?_
  clear R9
  rintro m σ' h' K ⟨rfl, left, cur, ps, l', rfl, hnd, hlt, hps, hcnt, hl', R⟩ hK
  have lX : ∀ a, (∀ n, a ≠ .tmp n) → (∀ q, a ≠ .ia q) → a ≠ .it → a ≠ .wk → l' a = l a := fun a ha hb hc hd => by
    rw [hl' a hd (ha 3) (ha 4), l8n a ha hb hc]
  have l'1 : l' (.tmp 1) = i1 := by rw [hl' _ (by simp) (by simp) (by simp), l81]
  have l'2 : l' (.tmp 2) = i2 := by rw [hl' _ (by simp) (by simp) (by simp), l82]
  have l'i : l' .it = it := by rw [hl' _ (by simp) (by simp) (by simp), l8i]
  have hhm : σ2.bg = σ.bg := rfl
  have xit : h' it = some (.iter (l (.hm p)) hs.length left cur) := by
    have := R.own .it (.iter (l (.hm p)) hs.length left cur) (by simp [ovl, conS, X, Con.set])
    rwa [l'i] at this
  have xm : h' (l (.hm p)) = some (mpN hs fun _ => B true) := by
    have := R.own (.hm p) (mpN hs fun _ => B true) (by simp [ovl, conS, St.push, σ2, hpb, ehs])
    rwa [lX _ (by simp) (by simp) (by simp) (by simp)] at this
  have n12 : i1 ≠ i2 := fun e => by
    have := R.inj (.tmp 1) (.tmp 2) (.arr 1 [[.op (l .pa) 0 0]]) (.arr 1 [[I (nA s p : Nat)]]) (by simp [ovl, conS, X, Con.set]) (by simp [ovl, conS, X, Con.set]) (by rw [l'1, l'2, e])
    simp at this
  refine next_c xit xm hlt (fun hle => ?_) fun i hi him => ?_
  · subst hle
    refine tp0 ?_
    simp only [w_brA, Bool.false_eq_true, if_false]
    obtain ⟨h2, r1, R2⟩ := R.fzS (t := 2) (sz := 1) (cs := [I (nA s p : Nat)]) (by simp [X, Con.set]) rfl (by simp [X, Con.set, Con.nil])
    obtain ⟨h3, r2, R3⟩ := R2.fzS (t := 1) (sz := 1) (cs := [.op (l .pa) 0 0]) (by simp [X, Con.set, Con.del]) rfl (by simp [X, Con.set, Con.nil, Con.del])
    refine retA_wk .refl r1 (Wk.one .refl r2 ?_)
    rw [push_mapW _ _ (hwf _ _) (hjf _ _), push_mapW _ _ (hwf _ _) (hjf _ _), l'1, l'2, List.map_map, List.map_map] at R3
    have e3 : ps.map ((fzW i1 [.op (l .pa) 0 0] ∘ fzW i2 [I (nA s p : Nat)]) ∘ clo) = ps.map (clC 208 (l .pa) (nA s p)) := List.map_congr_left fun x hx => by
      simp [clo, clC, fzW, fzA, n12]
    rw [e3] at R3
    refine hq _ l' h3 (.inr ⟨hin, ps, fun x => ?_, by rw [ehs, ewt]; simpa using hcnt, rfl⟩) (lX _ (by simp) (by simp) (by simp) (by simp)) (R3.weak fun a n ha => ?_)
    · rw [hps, ehs, ewt]
      refine and_congr_left fun _ => ⟨fun ⟨i, hi, _, e⟩ => e ▸ List.getElem_mem hi, fun h => ?_⟩
      obtain ⟨i, hi, e⟩ := List.mem_iff_getElem.1 h
      exact ⟨i, hi, by simp, e⟩
    · show (conS s bl (σ2.push (ps.map (clC 208 (l .pa) (nA s p)))) l' a).or _ = some n
      rw [show conS s bl (σ2.push (ps.map (clC 208 (l .pa) (nA s p)))) l' a = some n from ha]; rfl
  · refine tp0 ?_
    simp only [w_brA, if_true]
    have R1 := R.upd (a := .it) (.iter (l (.hm p)) hs.length (left.erase i) (some i)) (m := .iter (l (.hm p)) hs.length left cur) (by simp [ovl, conS, X, Con.set])
    rw [l'i] at R1
    have xm2 : (h'.set it (.iter (l (.hm p)) hs.length (left.erase i) (some i))) (l (.hm p)) = some (mpN hs fun _ => B true) := by
      have := R1.own (.hm p) (mpN hs fun _ => B true) (by simp [ovl, conS, St.push, σ2, hpb, ehs, Con.set])
      rwa [lX _ (by simp) (by simp) (by simp) (by simp)] at this
    refine entry_c (Heap.set_same _ _ _) xm2 hi ?_
    generalize h'.set it (.iter (l (.hm p)) hs.length (left.erase i) (some i)) = h2 at *
    refine tp0 ?_
    intro i4 hi4
    simp only [w_agg, List.length_cons, List.length_nil, true_and, g_0, g_1]
    rw [w_store (Heap.set_same _ _ _)]
    refine ⟨by simp, by simp, ?_⟩
    rw [Heap.set_set]
    have esp : ([[I 0, I 0]] : List (List AV)).set 0 (splice (([[I 0, I 0]] : List (List AV)).getD 0 []) 0 [I (hs[i].1 : Nat), I (hs[i].2 : Nat)]) = [plC hs[i]] := rfl
    rw [esp]
    have R2 := R1.mk' (.tmp 4) (.arr 2 [plC hs[i]]) hi4
    generalize h2.set i4 (.arr 2 [plC hs[i]]) = h3 at *
    generalize hl4 : l'.set (.tmp 4) i4 = l4 at *
    have l4n : ∀ a, a ≠ .tmp 4 → l4 a = l' a := fun a ha => by rw [← hl4, Lo.set_ne ha]
    have l44 : l4 (.tmp 4) = i4 := by rw [← hl4, Lo.set_same]
    let X4 : Con := (X (left.erase i) (some i)).set (.tmp 4) (.arr 2 [plC hs[i]])
    have R3 : RC hb (ovl (conS s bl (σ2.push (ps.map clo)) l4) X4) l4 h3 := R2.weak fun a n ha => by
      have ec : conS s bl (σ2.push (ps.map clo)) l4 = conS s bl (σ2.push (ps.map clo)) l' := by
        funext b; cases b <;> simp [conS, paC, wV, CSl, l4n]
      rw [ec] at ha
      cases a with
      | tmp m =>
        by_cases e : m = 4
        · subst e; simpa [ovl, conS, X4, X, Con.set] using ha
        · simpa [ovl, conS, X4, X, Con.set, e] using ha
      | it => simpa [ovl, conS, X4, X, Con.set] using ha
      | _ => first | (simp [ovl, conS, X4, X, Con.set, Con.nil] at ha; done) | simpa [ovl, conS, X4, X, Con.set, Con.nil] using ha
    clear R R1 R2
    have x1 : h3 i1 = some (.arr 1 [[.op (l .pa) 0 0]]) := by
      have := R3.own (.tmp 1) (.arr 1 [[.op (l .pa) 0 0]]) (by simp [ovl, conS, X4, X, Con.set])
      rwa [l4n _ (by simp), l'1] at this
    have l4X : ∀ a, (∀ n, a ≠ .tmp n) → (∀ q, a ≠ .ia q) → a ≠ .it → a ≠ .wk → l4 a = l a := fun a ha hb hc hd => by
      rw [l4n a (ha 4), lX a ha hb hc hd]
    have xa : h3 (l .pa) = some (.arr 10 [paC s bl (σ2.push (ps.map clo)) l4]) := by
      have := R3.own .pa (.arr 10 [paC s bl (σ2.push (ps.map clo)) l4]) (by simp [ovl, conS])
      rwa [l4X _ (by simp) (by simp) (by simp) (by simp)] at this
    have xw : h3 (l4 .mw) = some (mpN σ.kw fun k => .os (l4 (.wa k)) (wtOf s σ.bg k).length) := R3.own .mw _ (by simp [ovl, conS, St.push, σ2])
    refine rdA x1 xa (by omega) rfl ?_
    rw [w_one_v, w_one_v]
    refine look_c (k := k) xw ?_
    refine len_wt V ?_
    have hcn2 : left.length = (left.erase i).length + 1 := by
      rw [List.length_erase_of_mem him]
      have := List.length_pos_of_mem him
      omega
    have hcnt2 : ps.length + wt.length + (left.erase i).length * wt.length = hs.length * wt.length := by
      rw [← hcnt, hcn2, Nat.succ_mul]; omega
    have hsz : σ.wk.length + ps.length + wt.length ≤ 10000000000000 := by
      have := Nat.zero_le ((left.erase i).length * wt.length)
      omega
    refine push_loop (σ := σ2.push (ps.map clo)) (l := l4) (X := X4) (k := k) (i1 := i1) (i2 := i2) (i4 := i4) R3 (fun a ha hb => by simp [X4, X, Con.set, Con.nil, ha, hb]) (by simp [X4, X, Con.set, Con.nil]) (by rw [l4n _ (by simp), l'1]) (by rw [l4n _ (by simp), l'2]) l44
      (by rw [l4X .pa (by simp) (by simp) (by simp) (by simp)]; simp [X4, X, Con.set]) (n2 := .arr 1 [[I (nA s p : Nat)]]) (by simp [X4, X, Con.set]) (n4 := .arr 2 [plC hs[i]]) (by simp [X4, Con.set]) (fun x hx => ?_) (fun h => ?_) rfl rfl (fun hkn => ?_) (by simp only [St.push, List.length_append, List.length_map, σ2, ewt]; exact hsz) fun l5 h5 hl5 R5 => ?_
    · rcases List.mem_append.1 hx with hx | hx
      · exact (V.wf x hx).fx _ _
      · obtain ⟨q, _, rfl⟩ := List.mem_map.1 hx
        refine ⟨208, _, rfl, fun y hy => ?_⟩
        simp only [List.mem_cons, List.not_mem_nil, or_false] at hy
        rcases hy with rfl | rfl | rfl | rfl
        · exact .inr ⟨.tmp 1, by simp [X4, X, Con.set], by rw [l4n _ (by simp), l'1]⟩
        · exact .inl ⟨_, rfl⟩
        · exact .inl ⟨_, rfl⟩
        · exact .inr ⟨.tmp 2, by simp [X4, X, Con.set], by rw [l4n _ (by simp), l'2]⟩
    · simp only [St.push, Bool.or_eq_false_iff, Bool.not_eq_false', σ2] at h
      have h6 : ps.map clo = [] := by simpa using h.2
      simp only [St.push, h6, V.wn h.1, List.append_nil, σ2]
    · have := mt (V.kw k).2 hkn
      simpa [St.push, σ2] using this
    · have ewt2 : wtOf s (σ2.push (ps.map clo)).bg k = wt := ewt
      rw [ewt2, push_push] at R5
      have l54 : l5 (.tmp 4) = i4 := by rw [hl5 _ (by simp) (by simp), l44]
      obtain ⟨h6, r1, R6⟩ := R5.fzS (t := 4) (sz := 2) (cs := plC hs[i]) (by simp [X4, Con.set]) rfl (by simp [X4, X, Con.set, Con.nil])
      rw [push_mapW _ _ (hwf _ _) (hjf _ _), l54] at R6
      have n14 : i1 ≠ i4 := fun e => by
        have := R3.inj (.tmp 1) (.tmp 4) (.arr 1 [[.op (l .pa) 0 0]]) (.arr 2 [plC hs[i]]) (by simp [ovl, conS, X4, X, Con.set]) (by simp [ovl, conS, X4, X, Con.set]) (by rw [l44, l4n _ (by simp), l'1, e])
        simp at this
      have n24 : i2 ≠ i4 := fun e => by
        have := R3.inj (.tmp 2) (.tmp 4) (.arr 1 [[I (nA s p : Nat)]]) (.arr 2 [plC hs[i]]) (by simp [ovl, conS, X4, X, Con.set]) (by simp [ovl, conS, X4, X, Con.set]) (by rw [l44, l4n _ (by simp), l'2, e])
        simp at this
      have e5 : (ps.map clo ++ wt.map fun q => AV.fn 208 [.op i1 0 0, .ro (plC q), .op i4 0 0, .op i2 0 0]).map (fzW i4 (plC hs[i])) = (ps ++ wt.map fun q => (hs[i], q)).map clo := by
        simp only [List.map_append, List.map_map]
        congr 1
        · refine List.map_congr_left fun x hx => ?_
          simp [clo, fzW, fzA, n14, n24]
        · refine List.map_congr_left fun x hx => ?_
          simp [clo, fzW, fzA, n14, n24]
      rw [e5] at R6
      refine hK (left.erase i).length [] h5 (by omega) (Wk.none r1 ⟨rfl, left.erase i, some i, ps ++ wt.map (fun q => (hs[i], q)), l5, rfl, hnd.erase i, fun j hj => hlt j (List.mem_of_mem_erase hj), fun x => ?_, by simpa using hcnt2, fun a ha hb hc => by rw [hl5 a ha hb, l4n a hc]; exact hl' a ha hb hc, R6.weak fun a n ha => ?_⟩)
      · rw [List.mem_append, hps, List.mem_map]
        constructor
        · rintro (⟨⟨j, hj, hn, e⟩, h2⟩ | ⟨q, hq', rfl⟩)
          · exact ⟨⟨j, hj, fun h => hn (List.mem_of_mem_erase h), e⟩, h2⟩
          · exact ⟨⟨i, hi, fun h => ((hnd.mem_erase_iff).1 h).1 rfl, rfl⟩, hq'⟩
        · rintro ⟨⟨j, hj, hn, e⟩, h2⟩
          by_cases e2 : j = i
          · subst e2; exact .inr ⟨x.2, h2, by rw [e]⟩
          · exact .inl ⟨⟨j, hj, fun h => hn ((List.mem_erase_of_ne e2).2 h), e⟩, h2⟩
      · cases a with
        | tmp m =>
          by_cases e : m = 4
          · subst e; simp [ovl, conS, X, Con.set, Con.nil] at ha
          · simpa [ovl, conS, X4, X, Con.set, Con.del, e] using ha
        | it => simpa [ovl, conS, X4, X, Con.set, Con.del] using ha
        | _ => first | (simp [ovl, conS, X4, X, Con.set, Con.nil, Con.del] at ha; done) | simpa [ovl, conS, X4, X, Con.set, Con.nil, Con.del] using ha
end
end Am
set_option linter.unusedVariables false
set_option linter.unusedSimpArgs false
namespace Am
open Go Go.Proofs.Tryz
theorem StOk.push {s : Sch} {σ : St} (V : StOk s σ) {ws : List AV} (hw : ∀ x, x ∈ ws → Fz0 x) : StOk s (σ.push ws) where
  bgn := V.bgn
  hln := V.hln
  cln := V.cln
  kwn := V.kwn
  kin := V.kin
  kw := V.kw
  ki := V.ki
  hlb := V.hlb
  bgo := V.bgo
  wn h := by
    simp only [St.push, Bool.or_eq_false_iff, Bool.not_eq_false'] at h ⊢
    have h6 : ws = [] := by simpa using h.2
    rw [V.wn h.1, h6]; rfl
  wf x hx := by
    rcases List.mem_append.1 hx with hx | hx
    · exact V.wf x hx
    · exact hw x hx
  jf x hx := by
    simp only [St.push] at hx
    cases h : ws.isEmpty
    · simp [h] at hx
    · simp only [h, if_true] at hx; exact V.jf x hx
theorem StOk.came {s : Sch} {σ : St} (V : StOk s σ) {P : Nat} {k p : Pc} {σ' : St} (h : Come s P σ k p σ') : StOk s σ' := by
  rcases h with ⟨_, rfl⟩ | ⟨hn, ps, _, _, rfl⟩
  · exact V
  · refine StOk.push (σ := { σ with cl := σ.cl ++ [(k, p)], ki := insK σ.ki p }) ⟨V.bgn, V.hln, ?_, V.kwn, insK_nodup V.kin, V.kw, fun q => ?_, V.hlb, V.bgo, V.wn, V.wf, V.jf⟩ fun x hx => ?_
    · show (σ.cl ++ [(k, p)]).Nodup
      rw [List.nodup_append]
      exact ⟨V.cln, by simp, fun a ha b hb => by
        have : b = (k, p) := by simpa using hb
        subst this; rintro rfl; exact hn ha⟩
    · show q ∈ insK σ.ki p ↔ pick2 (σ.cl ++ [(k, p)]) q ≠ []
      rw [insK_mem, pick2_snoc]
      by_cases e : p = q
      · subst e; simp
      · have e' : ¬ q = p := fun h => e h.symm
        simp [e, e', V.ki q]
    · obtain ⟨y, _, rfl⟩ := List.mem_map.1 hx
      exact clC_fz _ _ _ _
inductive ComeL (s : Sch) (P : Nat) (σ : St) : List (Pc × Pc) → St → Prop
  | nil : ComeL s P σ [] σ
  | snoc {L : List (Pc × Pc)} {σ1 σ2 : St} {k p : Pc} (h1 : ComeL s P σ L σ1) (h2 : Come s P σ1 k p σ2) : ComeL s P σ (L ++ [(k, p)]) σ2
theorem Come.bg {s : Sch} {P : Nat} {σ σ' : St} {k p : Pc} (h : Come s P σ k p σ') : σ'.bg = σ.bg ∧ σ'.hl = σ.hl ∧ σ'.kw = σ.kw := by
  rcases h with ⟨_, rfl⟩ | ⟨_, ps, _, _, rfl⟩
  · exact ⟨rfl, rfl, rfl⟩
  · exact ⟨rfl, rfl, rfl⟩
theorem ComeL.bg {s : Sch} {P : Nat} {σ σ' : St} {L : List (Pc × Pc)} (h : ComeL s P σ L σ') : σ'.bg = σ.bg ∧ σ'.hl = σ.hl ∧ σ'.kw = σ.kw := by
  induction h with
  | nil => exact ⟨rfl, rfl, rfl⟩
  | snoc _ h2 ih =>
    obtain ⟨a, b, c⟩ := h2.bg
    exact ⟨a.trans ih.1, b.trans ih.2.1, c.trans ih.2.2⟩
theorem ComeL.ok {s : Sch} {P : Nat} {σ σ' : St} {L : List (Pc × Pc)} (V : StOk s σ) (h : ComeL s P σ L σ') : StOk s σ' := by
  induction h with
  | nil => exact V
  | snoc _ h2 ih => exact ih.came h2
def argP (s : Sch) (p hd : Pc) (j : Nat) : List (Pc × Pc) := ((List.range j).filter fun j => decide (hd.2 + j < ar s hd.1)).map fun j => ((hd.1, hd.2 + j), (p.1, (ndS s p).2.getD j 0))
theorem argP_succ (s : Sch) (p hd : Pc) (j : Nat) : argP s p hd (j + 1) = argP s p hd j ++ if hd.2 + j < ar s hd.1 then [((hd.1, hd.2 + j), (p.1, (ndS s p).2.getD j 0))] else [] := by
  simp only [argP, List.range_succ, List.filter_append, List.map_append]
  by_cases e : hd.2 + j < ar s hd.1 <;> simp [e]
def flatW (s : Sch) (σ : St) (p : Pc) : List Pc := (pick2 σ.cl p).flatMap (wtOf s σ.bg)
def St.addH (σ : St) (p hd : Pc) : St := { σ with hl := σ.hl ++ [(p, hd)] }
def Add (s : Sch) (bl : List Bool) (P : Nat) (σ : St) (p hd : Pc) (σ' : St) : Prop :=
  ((p, hd) ∈ σ.hl ∧ σ' = σ) ∨ ((p, hd) ∉ σ.hl ∧ ∃ σ1, ComeL s P (σ.addH p hd) (if bl.getD p.1 false = true then argP s p hd (nA s p) else []) σ1 ∧
    σ' = σ1.push ((flatW s σ1 p).map fun q => clC 188 P (hd.2 + nA s p) (hd, q)))
theorem StOk.addH {s : Sch} {σ : St} (V : StOk s σ) {p hd : Pc} (hin : (p, hd) ∉ σ.hl) (hpb : p ∈ σ.bg) : StOk s (σ.addH p hd) := ⟨V.bgn, (by
      show (σ.hl ++ [(p, hd)]).Nodup
      rw [List.nodup_append]
      exact ⟨V.hln, by simp, fun a ha b hb => by
        have : b = (p, hd) := by simpa using hb
        subst this; rintro rfl; exact hin ha⟩), V.cln, V.kwn, V.kin, V.kw, V.ki, (fun e he => by
      rcases List.mem_append.1 he with he | he
      · exact V.hlb e he
      · have : e = (p, hd) := by simpa using he
        subst this; exact hpb), V.bgo, V.wn, V.wf, V.jf⟩
theorem RC.newBase {hb h : Heap} {c : Con} {l : Lo} (R : RC hb c l h) {i : Nat} (n : Node) (hi : h i = none) : RC (hb.set i n) c l (h.set i n) := by
  have hbi : hb i = none := by
    cases e : hb i with
    | none => rfl
    | some n => rw [R.fr i n e] at hi; cases hi
  refine ⟨fun b n' e => ?_, fun b n' e => ?_, R.inj, fun j n' hj => ?_⟩
  · rw [Heap.set_ne (R.ne e hi)]; exact R.own b _ e
  · rw [Heap.set_ne (R.ne e hi)]; exact R.new b _ e
  · by_cases e : j = i
    · subst e; rw [Heap.set_same] at hj ⊢; exact hj
    · rw [Heap.set_ne e] at hj ⊢; exact R.fr j n' hj
section
variable {hb h : Heap} {s : Sch} {bl : List Bool} {σ : St} {l : Lo}
theorem add_tail (V : StOk s σ) {i1 i4 P : Nat} {p hd : Pc} (R : RC ((hb.set i1 (.arr 1 [[.op P 0 0]])).set i4 (.arr 2 [plC hd])) (conS s bl σ l) l h) (hb1 : hb i1 = none) (hb4 : hb i4 = none) (n14 : i1 ≠ i4) (eP : l .pa = P) (hp : okP s p) (hm : hd.2 ≤ 1000000) (hna : nA s p ≤ 1000000)
    (hsz : σ.wk.length + (flatW s σ p).length ≤ 10000000000000) (hcl : σ.cl.length ≤ 1000000) {Q : AV → Heap → Prop}
    (hq : ∀ l' h', l' .pa = P → RC hb (conS s bl (σ.push ((flatW s σ p).map fun q => clC 188 P (hd.2 + nA s p) (hd, q))) l') l' h' → Q (.tup []) h') :
    fldA 1 (.op i4 0 0) fun p_62 =>
    loadV p_62 h fun x_63 =>
    loadV (.op i1 0 0) h fun x_64 =>
    nilA x_64 <|
    fldA 2 x_64 fun p_65 =>
    loadV p_65 h fun x_66 =>
    idxA 1 x_66 (I (p.1 : Nat)) h fun p_67 =>
    loadV p_67 h fun x_68 =>
    idxA 2 x_68 (I (p.2 : Nat)) h fun p_69 =>
    fldA 1 p_69 fun p_70 =>
    loadV p_70 h fun x_71 =>
    lenA x_71 fun x_72 =>
    binA .add x_63 x_72 fun x_73 =>
    newA 1 [(I 0)] h fun p_74 h_75 =>
    (loadV p_62 h_75 fun x_121 =>
    TV.av x_121 = TV.av x_63) ∧
    (loadV (.op i1 0 0) h_75 fun x_120 =>
    TV.av x_120 = TV.av x_64) ∧
    (loadV p_65 h_75 fun x_119 =>
    TV.av x_119 = TV.av x_66) ∧
    (idxA 1 x_66 (I (p.1 : Nat)) h_75 fun p_118 =>
    TV.av p_118 = TV.av p_67) ∧
    (loadV p_67 h_75 fun x_117 =>
    TV.av x_117 = TV.av x_68) ∧
    (idxA 2 x_68 (I (p.2 : Nat)) h_75 fun p_116 =>
    TV.av p_116 = TV.av p_69) ∧
    (loadV p_70 h_75 fun x_115 =>
    TV.av x_115 = TV.av x_71) ∧
    (oneA x_73 <|
    storeG p_74 [x_73] h_75 fun h_76 =>
    loadV (.op i1 0 0) h_76 fun x_77 =>
    nilA x_77 <|
    fldA 6 x_77 fun p_78 =>
    loadV p_78 h_76 fun x_79 =>
    lookA [(.int .i64), (.int .i64)] false .e0 x_79 (.agg [(I (p.1 : Nat)), (I (p.2 : Nat))]) h_76 fun x_80 =>
    lenA x_80 fun x_82 =>
    loopS (fun s_83 h_84 K_85 =>
    binA .lss (g s_83 0) x_82 fun x_86 =>
    brA x_86 (idxA 2 x_80 (g s_83 0) h_84 fun p_87 =>
    loadG 2 p_87 h_84 fun c_88 =>
    loadV (.op i1 0 0) h_84 fun x_89 =>
    nilA x_89 <|
    fldA 5 x_89 fun p_90 =>
    loadV p_90 h_84 fun x_91 =>
    lookA [(.int .i64), (.int .i64)] false .e0 x_91 (.agg [(g c_88 0), (g c_88 1)]) h_84 fun x_92 =>
    lenA x_92 fun x_94 =>
    loopS (fun s_95 h_96 K_97 =>
    binA .lss (g s_95 0) x_94 fun x_98 =>
    brA x_98 (idxA 2 x_92 (g s_95 0) h_96 fun p_99 =>
    loadG 2 p_99 h_96 fun c_100 =>
    newA 2 [(I 0), (I 0)] h_96 fun p_101 h_102 =>
    storeG p_101 [(g c_100 0), (g c_100 1)] h_102 fun h_103 =>
    loadV (.op i1 0 0) h_103 fun x_104 =>
    loadV (.op i1 0 0) h_103 fun x_105 =>
    nilA x_105 <|
    fldA 8 x_105 fun p_106 =>
    loadV p_106 h_103 fun x_107 =>
    oneA (.fn 188 [(.op i1 0 0), p_101, (.op i4 0 0), p_74]) <|
    appA 1 8 x_107 (.rs 1 [[(.fn 188 [(.op i1 0 0), p_101, (.op i4 0 0), p_74])]]) h_103 fun x_108 h_109 =>
    (loadV (.op i1 0 0) h_109 fun x_113 =>
    TV.av x_113 = TV.av x_104) ∧
    (nilA x_104 <|
    fldA 8 x_104 fun p_110 =>
    oneA x_108 <|
    storeG p_110 [x_108] h_109 fun h_111 =>
    binA .add (g s_95 0) (I 1) fun x_112 =>
    K_97 [x_112] h_111)) (binA .add (g s_83 0) (I 1) fun x_114 =>
    K_85 [x_114] h_96)) [(I 0)] h_84) (retA (.tup []) h_84 fun x h' => Wk [x] h' fun r h => Wk [g r 0] h fun r h => Q (g r 0) h)) [(I 0)] h_76) := by
  subst eP
  rw [w_fld_op, Nat.zero_add]
  have x4 : h i4 = some (.arr 2 [plC hd]) := R.fr i4 _ (Heap.set_same _ _ _)
  have x1 : h i1 = some (.arr 1 [[.op (l .pa) 0 0]]) := R.fr i1 _ (by rw [Heap.set_ne n14]; exact Heap.set_same _ _ _)
  have xa : h (l .pa) = some (.arr 10 [paC s bl σ l]) := R.own .pa _ rfl
  refine ld (x := I (hd.2 : Nat)) x4 (by omega) rfl ?_
  refine rd_nd x1 xa rfl hp ?_
  rw [w_len_rs, nCs_len, w_add, show IntKind.i64.wrap (((hd.2 : Nat) : Int) + ((ndS s p).2.length : Nat)) = ((hd.2 + nA s p : Nat) : Int) by
    have hna' : (ndS s p).2.length ≤ 1000000 := hna
    rw [wrap_i64 (by omega) (by omega)]; simp [nA]]
  intro i2 hi2
  have R0 := R.ofBase (.tmp 4) (by rw [Heap.set_ne n14.symm]; exact hb4)
  have R0 := R0.ofBase (.tmp 1) hb1
  have Rb := R0.mk' (.tmp 2) (.arr 1 [[I 0]]) hi2
  have n2 : ∀ {j n}, h j = some n → j ≠ i2 := fun {j n} hj e => by subst e; rw [hi2] at hj; cases hj
  have x1' : (h.set i2 (.arr 1 [[I 0]])) i1 = some (.arr 1 [[.op (l .pa) 0 0]]) := by rw [Heap.set_ne (n2 x1)]; exact x1
  have x4' : (h.set i2 (.arr 1 [[I 0]])) i4 = some (.arr 2 [plC hd]) := by rw [Heap.set_ne (n2 x4)]; exact x4
  have xa' : (h.set i2 (.arr 1 [[I 0]])) (l .pa) = some (.arr 10 [paC s bl σ l]) := by rw [Heap.set_ne (n2 xa)]; exact xa
  refine ⟨ld (x := I (hd.2 : Nat)) x4' (by omega) rfl rfl, ld x1' (by omega) rfl rfl, ld xa' (by omega) rfl rfl, ix_rs (by rw [NS_len]; exact hp.1) (NS_get hp.1) rfl, by rw [w_loadV_ro], ix_rs (by rw [ndCs_len, ndF_len]; exact hp.2) (nd_get hp) rfl, by rw [w_loadV_ro], ?_⟩
  rw [w_one_v]
  refine st_at (Heap.set_same _ _ _) (by omega) ?_
  rw [Heap.set_set]
  have est : ([I 0] : List AV).set 0 (I ((hd.2 + nA s p : Nat) : Int)) = [I (hd.2 + nA s p : Nat)] := rfl
  rw [est]
  clear Rb x1' x4' xa'
  have R1 := R0.mk' (.tmp 2) (.arr 1 [[I (hd.2 + nA s p : Nat)]]) hi2
  generalize h.set i2 (.arr 1 [[I (hd.2 + nA s p : Nat)]]) = h1 at *
  clear x1 x4 xa n2 hi2 R0 R
  obtain ⟨l1, hl1⟩ : ∃ l1, l1 = ((l.set (.tmp 4) i4).set (.tmp 1) i1).set (.tmp 2) i2 := ⟨_, rfl⟩
  rw [← hl1] at R1
  have l1n : ∀ a, (∀ n, a ≠ .tmp n) → l1 a = l a := fun a ha => by rw [hl1, Lo.set_ne (ha 2), Lo.set_ne (ha 1), Lo.set_ne (ha 4)]
  have l11 : l1 (.tmp 1) = i1 := by rw [hl1, Lo.set_ne (by simp), Lo.set_same]
  have l12 : l1 (.tmp 2) = i2 := by rw [hl1, Lo.set_same]
  have l14 : l1 (.tmp 4) = i4 := by rw [hl1, Lo.set_ne (by simp), Lo.set_ne (by simp), Lo.set_same]
  let X : Con := ((Con.nil.set (.tmp 1) (.arr 1 [[.op (l .pa) 0 0]])).set (.tmp 4) (.arr 2 [plC hd])).set (.tmp 2) (.arr 1 [[I (hd.2 + nA s p : Nat)]])
  have R2 : RC hb (ovl (conS s bl σ l1) X) l1 h1 := R1.weak fun a n ha => by
    have ec : conS s bl σ l1 = conS s bl σ l := by
      funext b; cases b <;> simp [conS, paC, wV, CSl, l1n]
    rw [ec] at ha
    cases a with
    | tmp m =>
      by_cases e1 : m = 1
      · subst e1; simpa [ovl, conS, X, Con.set] using ha
      by_cases e2 : m = 2
      · subst e2; simpa [ovl, conS, X, Con.set] using ha
      by_cases e4 : m = 4
      · subst e4; simpa [ovl, conS, X, Con.set] using ha
      · simp [ovl, conS, X, Con.set, Con.nil, e1, e2, e4] at ha
    | _ => first | (simp [ovl, conS, X, Con.set, Con.nil] at ha; done) | simpa [ovl, conS, X, Con.set, Con.nil] using ha
  clear R1
  have x1 : h1 i1 = some (.arr 1 [[.op (l .pa) 0 0]]) := by
    have := R2.own (.tmp 1) (.arr 1 [[.op (l .pa) 0 0]]) (by simp [ovl, conS, X, Con.set])
    rwa [l11] at this
  have xa : h1 (l .pa) = some (.arr 10 [paC s bl σ l1]) := by
    have := R2.own .pa (.arr 10 [paC s bl σ l1]) rfl
    rwa [l1n _ (by simp)] at this
  have xi : h1 (l1 .mi) = some (mpN σ.ki fun p => .os (l1 (.ia p)) (pick2 σ.cl p).length) := R2.own .mi _ rfl
  refine rdA x1 xa (by omega) rfl ?_
  refine look_c (k := p) xi ?_
  refine len_ia V ?_
  have hpl : (pick2 σ.cl p).length ≤ σ.cl.length := by
    simp only [pick2, List.length_map]; exact List.length_filter_le _ _
  let clo : Pc → AV := fun q => .fn 188 [.op i1 0 0, .ro (plC q), .op i4 0 0, .op i2 0 0]
  let fw : Nat → List Pc := fun j => ((pick2 σ.cl p).take j).flatMap (wtOf s σ.bg)
  have hjf : ∀ id cs x, x ∈ σ.jk → fzW id cs x = x := fun id cs x hx => (V.jf x hx).fz id cs
  have hwf : ∀ id cs x, x ∈ σ.wk → fzW id cs x = x := fun id cs x hx => (V.wf x hx).fz id cs
  refine loop_up (pick2 σ.cl p).length (fun j σ' h' => σ' = [I j] ∧ ∃ l', (∀ a, a ≠ .wk → a ≠ .tmp 3 → l' a = l1 a) ∧ RC hb (ovl (conS s bl (σ.push ((fw j).map clo)) l') X) l' h')
    ⟨rfl, l1, fun _ _ _ => rfl, by simpa [fw] using R2⟩ (fun k σ' h' ⟨e, _⟩ => by rw [e]; rfl) ?_
  clear R2 x1 xa xi
  rintro j σ' h' K hj ⟨rfl, l', hl', R⟩ hK
  have lX : ∀ a, (∀ n, a ≠ .tmp n) → a ≠ .wk → l' a = l a := fun a ha hd => by rw [hl' a hd (ha 3), l1n a ha]
  have l'1 : l' (.tmp 1) = i1 := by rw [hl' _ (by simp) (by simp), l11]
  have l'2 : l' (.tmp 2) = i2 := by rw [hl' _ (by simp) (by simp), l12]
  have l'4 : l' (.tmp 4) = i4 := by rw [hl' _ (by simp) (by simp), l14]
  by_cases hlt : j < (pick2 σ.cl p).length
  · have hlt' : (j : Int) < (pick2 σ.cl p).length := by omega
    have hki : p ∈ σ.ki := (V.ki p).2 fun e => by rw [e] at hlt; simp at hlt
    simp only [g_0, w_lss, hlt', decide_true, w_brA, if_true, hki]
    have xia : h' (l' (.ia p)) = some (.arr 2 ((pick2 σ.cl p).map plC)) := R.own (.ia p) _ (by simp [ovl, conS, St.push, hki])
    rw [lX _ (by simp) (by simp)] at xia
    rw [l1n _ (by simp), w_idx_os xia]
    refine ⟨rfl, by omega, hlt', by simp, ?_⟩
    rw [Int.toNat_natCast, w_loadG_op xia]
    have egd : ((pick2 σ.cl p).map plC).getD j [] = plC (pick2 σ.cl p)[j] := by simp [List.getD_eq_getElem?_getD, hlt]
    rw [egd]
    refine ⟨by simpa using hlt, by omega, ?_⟩
    simp only [List.drop_zero, g_0, g_1]
    generalize ek : (pick2 σ.cl p)[j] = k
    have x1 : h' i1 = some (.arr 1 [[.op (l .pa) 0 0]]) := by
      have := R.own (.tmp 1) (.arr 1 [[.op (l .pa) 0 0]]) (by simp [ovl, conS, X, Con.set])
      rwa [l'1] at this
    have xa : h' (l .pa) = some (.arr 10 [paC s bl (σ.push ((fw j).map clo)) l']) := by
      have := R.own .pa (.arr 10 [paC s bl (σ.push ((fw j).map clo)) l']) rfl
      rwa [lX _ (by simp) (by simp)] at this
    have xw : h' (l' .mw) = some (mpN σ.kw fun k => .os (l' (.wa k)) (wtOf s σ.bg k).length) := R.own .mw _ rfl
    refine rdA x1 xa (by omega) rfl ?_
    refine look_c (k := k) xw ?_
    refine len_wt V ?_
    have efw : fw (j + 1) = fw j ++ wtOf s σ.bg k := by
      simp only [fw]
      rw [List.take_succ_eq_append_getElem hlt, List.flatMap_append, ek]
      simp
    have hfl : (fw (j + 1)).length ≤ (flatW s σ p).length := by
      have : flatW s σ p = fw (j + 1) ++ ((pick2 σ.cl p).drop (j + 1)).flatMap (wtOf s σ.bg) := by
        simp only [fw, flatW]
        rw [← List.flatMap_append, List.take_append_drop]
      rw [this, List.length_append]; omega
    rw [efw, List.length_append] at hfl
    refine push_loop (σ := σ.push ((fw j).map clo)) (l := l') (X := X) (k := k) (i1 := i1) (i2 := i2) (i4 := i4) R (fun a ha hb => by simp [X, Con.set, Con.nil, ha, hb]) (by simp [X, Con.set, Con.nil]) l'1 l'2 l'4
      (by rw [lX .pa (by simp) (by simp)]; simp [X, Con.set]) (n2 := .arr 1 [[I (hd.2 + nA s p : Nat)]]) (by simp [X, Con.set]) (n4 := .arr 2 [plC hd]) (by simp [X, Con.set]) (fun x hx => ?_) (fun h => ?_) rfl rfl (fun hkn => ?_) (by simp only [St.push, List.length_append, List.length_map]; omega) fun l5 h5 hl5 R5 => ?_
    · rcases List.mem_append.1 hx with hx | hx
      · exact (V.wf x hx).fx _ _
      · obtain ⟨q, _, rfl⟩ := List.mem_map.1 hx
        refine ⟨188, _, rfl, fun y hy => ?_⟩
        simp only [List.mem_cons, List.not_mem_nil, or_false] at hy
        rcases hy with rfl | rfl | rfl | rfl
        · exact .inr ⟨.tmp 1, by simp [X, Con.set], by rw [l'1]⟩
        · exact .inl ⟨_, rfl⟩
        · exact .inr ⟨.tmp 4, by simp [X, Con.set], by rw [l'4]⟩
        · exact .inr ⟨.tmp 2, by simp [X, Con.set], by rw [l'2]⟩
    · simp only [St.push, Bool.or_eq_false_iff, Bool.not_eq_false'] at h
      have h6 : (fw j).map clo = [] := by simpa using h.2
      simp only [St.push, h6, V.wn h.1, List.append_nil]
    · have := mt (V.kw k).2 hkn
      simpa [St.push] using this
    · rw [w_add, wrap_k (k := j) (by omega)]
      refine hK hlt _ _ ⟨rfl, l5, fun a ha hb => by rw [hl5 a ha hb]; exact hl' a ha hb, ?_⟩
      have e2 : wtOf s (σ.push ((fw j).map clo)).bg k = wtOf s σ.bg k := rfl
      rw [e2, push_push] at R5
      rw [efw, List.map_append]
      exact R5
  · have hjn : j = (pick2 σ.cl p).length := by omega
    subst hjn
    simp only [g_0, w_lss, Int.lt_irrefl, decide_false, w_brA, Bool.false_eq_true, if_false]
    have efw : fw (pick2 σ.cl p).length = flatW s σ p := by simp [fw, flatW]
    rw [efw] at R
    have n12 : i1 ≠ i2 := fun e => by
      have := R.inj (.tmp 1) (.tmp 2) (.arr 1 [[.op (l .pa) 0 0]]) (.arr 1 [[I (hd.2 + nA s p : Nat)]]) (by simp [ovl, conS, X, Con.set]) (by simp [ovl, conS, X, Con.set]) (by rw [l'1, l'2, e])
      simp at this
    have n42 : i4 ≠ i2 := fun e => by
      have := R.inj (.tmp 4) (.tmp 2) (.arr 2 [plC hd]) (.arr 1 [[I (hd.2 + nA s p : Nat)]]) (by simp [ovl, conS, X, Con.set]) (by simp [ovl, conS, X, Con.set]) (by rw [l'4, l'2, e])
      simp at this
    obtain ⟨h2, r1, R2⟩ := R.fzS (t := 2) (sz := 1) (cs := [I (hd.2 + nA s p : Nat)]) (by simp [X, Con.set]) rfl (by simp [X, Con.set, Con.nil])
    obtain ⟨h3, r2, R3⟩ := R2.fzS (t := 4) (sz := 2) (cs := plC hd) (by simp [X, Con.set, Con.del]) rfl (by simp [X, Con.set, Con.nil, Con.del])
    obtain ⟨h4, r3, R4⟩ := R3.fzS (t := 1) (sz := 1) (cs := [.op (l .pa) 0 0]) (by simp [X, Con.set, Con.del]) rfl (by simp [X, Con.set, Con.nil, Con.del])
    refine retA_wk .refl r1 (Wk.one (Q := fun x h => Wk [x] h fun r h => Q (g r 0) h) .refl r2 (Wk.one .refl r3 ?_))
    rw [push_mapW _ _ (hwf _ _) (hjf _ _), push_mapW _ _ (hwf _ _) (hjf _ _), push_mapW _ _ (hwf _ _) (hjf _ _), l'1, l'2, l'4, List.map_map, List.map_map, List.map_map] at R4
    have e3 : (flatW s σ p).map (((fzW i1 [.op (l .pa) 0 0] ∘ fzW i4 (plC hd)) ∘ fzW i2 [I (hd.2 + nA s p : Nat)]) ∘ clo) = (flatW s σ p).map fun q => clC 188 (l .pa) (hd.2 + nA s p) (hd, q) := List.map_congr_left fun x hx => by
      simp [clo, clC, fzW, fzA, n12, n42, n14]
    rw [e3] at R4
    refine hq l' h4 (lX _ (by simp) (by simp)) (R4.weak fun a n ha => ?_)
    show (conS s bl (σ.push ((flatW s σ p).map fun q => clC 188 (l .pa) (hd.2 + nA s p) (hd, q))) l' a).or _ = some n
    rw [ha]; rfl
theorem add_c (V : StOk s σ) (R : RC hb (conS s bl σ l) l h) {p hd : Pc} (hpb : p ∈ σ.bg) (hg : hd.1 < s.funs.length) (hm : hd.2 ≤ 1000000) (hna : nA s p ≤ 1000000) (har : ar s hd.1 ≤ 1000000) (hp2 : p.2 ≤ 1000000) (hbl : bl.length = s.funs.length)
    (hall : ∀ q, okP s q → bl.getD q.1 false = true → q ∈ σ.bg) (harg : ∀ j, j < nA s p → okP s (p.1, (ndS s p).2.getD j 0))
    (hsz : (p, hd) ∉ σ.hl → ∀ L σ1, ComeL s (l .pa) (σ.addH p hd) L σ1 → (∃ j, j ≤ nA s p ∧ L = argP s p hd j) → (L = [] ∨ bl.getD p.1 false = true) → σ1.cl.length ≤ 1000000 ∧ (∀ k q, q ∈ σ.bg → okK s k → σ1.wk.length + (pick σ1.hl q).length * (wtOf s σ1.bg k).length ≤ 10000000000000) ∧ σ1.wk.length + (flatW s σ1 p).length ≤ 10000000000000)
    {Q : AV → Heap → Prop} (hq : ∀ σ' l' h', Add s bl (l .pa) σ p hd σ' → l' .pa = l .pa → RC hb (conS s bl σ' l') l' h' → Q (.tup []) h') : ACalls prog n_flow_analysis_add [.op (l .pa) 0 0, kC p, kC hd] h Q := by
  have hp := V.bgo p hpb
  refine ACalls.wk (ACalls.wk ?_)
  refine flow_analysis_add_call ?_
  unfold flow_analysis_add
  rw [w_one_op]
  intro i1 hi1
  simp only [w_agg, List.length_cons, List.length_nil, true_and, g_0, g_1]
  intro i4 hi4
  have R0 := (R.newBase (.arr 1 [[.op (l .pa) 0 0]]) hi1).newBase (.arr 2 [plC hd]) hi4
  have hb1 : hb i1 = none := by
    cases e : hb i1 with
    | none => rfl
    | some n => rw [R.fr i1 n e] at hi1; cases hi1
  have n14 : i1 ≠ i4 := fun e => by subst e; rw [Heap.set_same] at hi4; cases hi4
  have hb4 : hb i4 = none := by
    cases e : hb i4 with
    | none => rfl
    | some n => rw [Heap.set_ne n14.symm, R.fr i4 n e] at hi4; cases hi4
  generalize (h.set i1 (.arr 1 [[.op (l .pa) 0 0]])).set i4 (.arr 2 [plC hd]) = h1 at *
  have x1 : h1 i1 = some (.arr 1 [[.op (l .pa) 0 0]]) := R0.fr i1 _ (by rw [Heap.set_ne n14]; exact Heap.set_same _ _ _)
  have x4 : h1 i4 = some (.arr 2 [plC hd]) := R0.fr i4 _ (Heap.set_same _ _ _)
  have xa : h1 (l .pa) = some (.arr 10 [paC s bl σ l]) := R0.own .pa _ rfl
  have xh : h1 (l .mh) = some (mpN σ.bg fun p => .mp (l (.hm p))) := R0.own .mh _ rfl
  have xm : h1 (l (.hm p)) = some (mpN (pick σ.hl p) fun _ => B true) := R0.own (.hm p) _ (by simp [conS, hpb])
  have ldg : ∀ {K : List AV → Prop}, K [I (hd.1 : Nat), I (hd.2 : Nat)] → loadG 2 (.op i4 0 0) h1 K := fun {K} hk => by
    rw [w_loadG_op x4]; exact ⟨by simp, by omega, hk⟩
  refine rdA x1 xa (by omega) rfl (ldg ?_)
  refine look_c (k := p) (ks := σ.bg) (v := fun p => .mp (l (.hm p))) xh ?_
  simp only [hpb, if_true, g_0, g_1]
  refine ⟨ldg rfl, ?_⟩
  refine look_c (k := hd) xm ?_
  by_cases hin : (p, hd) ∈ σ.hl
  · simp only [mem_pick, hin, if_true, w_brA]
    refine retA_of (Wk.refl (Wk.refl (hq σ l h1 (.inl ⟨hin, rfl⟩) rfl ?_)))
    exact ⟨R0.own, fun a n e => R.new a n e, R0.inj, fun j n hj => R0.fr j n (by
      have n1 : j ≠ i1 := fun e => by subst e; rw [hb1] at hj; cases hj
      have n4 : j ≠ i4 := fun e => by subst e; rw [hb4] at hj; cases hj
      rw [Heap.set_ne n4, Heap.set_ne n1]; exact hj)⟩
  simp only [mem_pick, hin, if_false, w_brA, Bool.false_eq_true]
  refine rdA x1 xa (by omega) rfl (ldg ?_)
  refine look_c (k := p) (ks := σ.bg) (v := fun p => .mp (l (.hm p))) xh ?_
  simp only [hpb, if_true, g_0, g_1]
  refine ⟨ldg rfl, ?_⟩
  refine upd_c (k := hd) (pick_nodup V.hln p) xm ?_
  rw [mp_true (by simpa using hin)]
  have R1 := R0.upd (a := .hm p) (mpN (pick σ.hl p ++ [hd]) fun _ => B true) (m := mpN (pick σ.hl p) fun _ => B true) (by simp [conS, hpb])
  generalize h1.set (l (.hm p)) (mpN (pick σ.hl p ++ [hd]) fun _ => B true) = h2 at *
  have R2 : RC ((hb.set i1 (.arr 1 [[.op (l .pa) 0 0]])).set i4 (.arr 2 [plC hd])) (conS s bl (σ.addH p hd) l) l h2 := R1.weak fun a n ha => by
    cases a with
    | hm q =>
      by_cases e : q = p
      · subst e; simpa [conS, St.addH, pick_snoc, hpb, Con.set] using ha
      · have e' : ¬ p = q := fun h => e h.symm
        simpa [conS, St.addH, pick_snoc, e', e, Con.set] using ha
    | _ =>
      rw [Con.set_ne (by simp)]
      exact ha
  have V2 : StOk s (σ.addH p hd) := V.addH hin hpb
  clear R0 R1 x1 x4 xa xh xm ldg
  have x1 : h2 i1 = some (.arr 1 [[.op (l .pa) 0 0]]) := R2.fr i1 _ (by rw [Heap.set_ne n14]; exact Heap.set_same _ _ _)
  have xa : h2 (l .pa) = some (.arr 10 [paC s bl (σ.addH p hd) l]) := R2.own .pa _ rfl
  refine rdA (x := .rs 1 (bCs bl)) x1 xa (by omega) rfl ?_
  refine ix_rs (by rw [bCs_len, hbl]; exact hp.1) (bCs_get (by rw [hbl]; exact hp.1)) ?_
  rw [w_loadV_ro]
  cases hr : bl.getD p.1 false with
  | false =>
    simp only [w_brA, Bool.false_eq_true, if_false]
    obtain ⟨z1, z2, z3⟩ := hsz hin [] _ .nil ⟨0, by omega, by simp [argP]⟩ (.inl rfl)
    refine add_tail V2 R2 hb1 hb4 n14 rfl hp hm hna z3 z1 fun l' h' e1 e2 => ?_
    exact hq _ l' h' (.inr ⟨hin, _, by rw [hr]; exact .nil, rfl⟩) e1 e2
  | true =>
    simp only [w_brA, if_true]
    refine rd_nd x1 xa rfl hp ?_
    rw [w_len_rs, nCs_len]
    refine loop_up (nA s p) (fun j σ' h' => σ' = [I j] ∧ ∃ l' σ1, l' .pa = l .pa ∧ ComeL s (l .pa) (σ.addH p hd) (argP s p hd j) σ1 ∧ RC ((hb.set i1 (.arr 1 [[.op (l .pa) 0 0]])).set i4 (.arr 2 [plC hd])) (conS s bl σ1 l') l' h')
      ⟨rfl, l, _, rfl, by simpa [argP] using ComeL.nil, R2⟩ (fun k σ' h' ⟨e, _⟩ => by rw [e]; rfl) ?_
    clear R2 x1 xa
    rintro j σ' h' K hj ⟨rfl, l', σ1, el, hc, R⟩ hK
    have V1 := hc.ok V2
    obtain ⟨eb, eh, _⟩ := hc.bg
    obtain ⟨z1, z2, z3⟩ := hsz hin _ _ hc ⟨j, hj, rfl⟩ (.inr hr)
    have x1 : h' i1 = some (.arr 1 [[.op (l .pa) 0 0]]) := R.fr i1 _ (by rw [Heap.set_ne n14]; exact Heap.set_same _ _ _)
    have x4 : h' i4 = some (.arr 2 [plC hd]) := R.fr i4 _ (Heap.set_same _ _ _)
    have xa : h' (l .pa) = some (.arr 10 [paC s bl σ1 l']) := by rw [← el]; exact R.own .pa _ rfl
    simp only [g_0]
    by_cases hlt : j < nA s p
    · have hlt' : (j : Int) < (ndS s p).2.length := by have : nA s p = (ndS s p).2.length := rfl; omega
      have hlt2 : j < (ndS s p).2.length := hlt
      simp only [w_lss, hlt', decide_true, w_brA, if_true]
      have hwk : IntKind.i64.wrap ((j : Int) + 1) = ((j + 1 : Nat) : Int) := wrap_k (by omega)
      refine ix_rs (cs := [I ((ndS s p).2.getD j 0 : Nat)]) (by simpa using hlt2) (by rw [nCs_get hlt2]; simp [List.getD_eq_getElem?_getD, hlt2]) ?_
      rw [w_loadV_ro, w_fld_op, Nat.zero_add]
      refine ld (x := I (hd.2 : Nat)) x4 (by omega) rfl ?_
      rw [w_add, show IntKind.i64.wrap (((hd.2 : Nat) : Int) + (j : Nat)) = ((hd.2 + j : Nat) : Int) by rw [wrap_i64 (by omega) (by omega)]; simp]
      refine rdA (x := .rs 1 (CSl s l')) x1 xa (by omega) rfl ?_
      rw [w_fld_op]
      refine ld (x := I (hd.1 : Nat)) x4 (by omega) rfl ?_
      refine ix_rs (by rw [CSl_len]; exact hg) (CSl_get l' hg) ?_
      rw [w_loadV_ro, w_len_rs]
      simp only [List.length_map, List.length_range, w_lss]
      by_cases hc2 : hd.2 + j < ar s hd.1
      · have hc3 : ((hd.2 + j : Nat) : Int) < (ar s hd.1 : Nat) := by omega
        simp only [hc3, decide_true, w_brA, if_true]
        refine ld (x := .op (l .pa) 0 0) x1 (by omega) rfl ?_
        rw [w_fld_op]
        refine ld (x := I (hd.1 : Nat)) x4 (by omega) rfl ?_
        rw [w_one_v, w_one_v]
        refine callS_of ?_
        have hq2 := harg j hlt
        have hb2 : ((p.1, (ndS s p).2.getD j 0) : Pc) ∈ σ1.bg := by rw [eb]; exact hall _ hq2 hr
        rw [← el]
        refine come_c (k := (hd.1, hd.2 + j)) (p := (p.1, (ndS s p).2.getD j 0)) V1 R ⟨hg, hc2⟩ hq2 hb2 z1 (z2 _ _ (by rw [eb] at hb2; exact hb2) ⟨hg, hc2⟩) fun σ2 l2 h2 hcm e1 e2 => ?_
        rw [w_add, hwk]
        refine hK hlt _ _ ⟨rfl, l2, σ2, e1.trans el, ?_, e2⟩
        rw [argP_succ, if_pos hc2]
        rw [el] at hcm
        exact .snoc hc hcm
      · have hc3 : ¬ ((hd.2 + j : Nat) : Int) < (ar s hd.1 : Nat) := by omega
        simp only [hc3, decide_false, w_brA, if_false, Bool.false_eq_true]
        rw [w_add, hwk]
        refine hK hlt _ _ ⟨rfl, l', σ1, el, ?_, R⟩
        rw [argP_succ, if_neg hc2, List.append_nil]
        exact hc
    · have hjn : j = nA s p := by omega
      subst hjn
      have : ¬ ((nA s p : Nat) : Int) < ((ndS s p).2.length : Nat) := by simp [nA]
      simp only [this, w_lss, decide_false, w_brA, Bool.false_eq_true, if_false]
      refine add_tail V1 R hb1 hb4 n14 el hp hm hna z3 z1 fun l' h' e1 e2 => ?_
      exact hq _ l' h' (.inr ⟨hin, _, by rw [hr]; exact hc, rfl⟩) e1 e2
end
end Am
