/- The analysis's state, and how it lies in memory; the loop that pushes work. -/
import Derived.Test.YtoifckjdnldlpaaZFa
import Derived.Test.YtoifckjdnldlpaaZFb
set_option linter.unusedVariables false
set_option linter.unusedSimpArgs false
namespace Am
open Go Go.Proofs.Try
def ndS (s : Sch) (p : Pc) : Tm × List Nat := (ndF 0 (s.funs.getD p.1 default).body).getD p.2 (default, [])
def NS (s : Sch) : List (List AV) := s.funs.map fun f => [.rs 2 (ndCs (ndF 0 f.body))]
def ar (s : Sch) (f : Nat) : Nat := (s.funs.getD f default).sort.kids.length
def CSl (s : Sch) (l : Lo) : List (List AV) := (List.range s.funs.length).map fun f => [.rs 1 ((List.range (ar s f)).map fun i => [.mp (l (.cm (f, i)))])]
def okP (s : Sch) (p : Pc) : Prop := p.1 < s.funs.length ∧ p.2 < (s.funs.getD p.1 default).body.nodes
def okK (s : Sch) (k : Pc) : Prop := k.1 < s.funs.length ∧ k.2 < ar s k.1
instance (s : Sch) (k : Pc) : Decidable (okK s k) := inferInstanceAs (Decidable (_ ∧ _))
structure St where
  bg : List Pc
  hl : List (Pc × Pc)
  cl : List (Pc × Pc)
  kw : List Pc
  ki : List Pc
  wk : List AV
  jk : List AV
  wn : Bool
def pick (l : List (Pc × Pc)) (p : Pc) : List Pc := (l.filter fun e => decide (e.1 = p)).map (·.2)
def pick2 (l : List (Pc × Pc)) (p : Pc) : List Pc := (l.filter fun e => decide (e.2 = p)).map (·.1)
@[simp] theorem mem_pick {l : List (Pc × Pc)} {p q : Pc} : q ∈ pick l p ↔ (p, q) ∈ l := by
  simp only [pick, List.mem_map, List.mem_filter, decide_eq_true_eq]
  exact ⟨fun ⟨e, ⟨h1, h2⟩, h3⟩ => by subst h2; subst h3; exact h1, fun h => ⟨_, ⟨h, rfl⟩, rfl⟩⟩
@[simp] theorem mem_pick2 {l : List (Pc × Pc)} {p q : Pc} : q ∈ pick2 l p ↔ (q, p) ∈ l := by
  simp only [pick2, List.mem_map, List.mem_filter, decide_eq_true_eq]
  exact ⟨fun ⟨e, ⟨h1, h2⟩, h3⟩ => by subst h2; subst h3; exact h1, fun h => ⟨_, ⟨h, rfl⟩, rfl⟩⟩
theorem nodup_map_on {α β : Type} {f : α → β} {l : List α} (hn : l.Nodup) (hf : ∀ a, a ∈ l → ∀ b, b ∈ l → f a = f b → a = b) : (l.map f).Nodup := by
  induction l with
  | nil => simp
  | cons a l ih =>
    rw [List.nodup_cons] at hn
    rw [List.map_cons, List.nodup_cons]
    refine ⟨fun h => ?_, ih hn.2 fun a ha b hb => hf a (by simp [ha]) b (by simp [hb])⟩
    obtain ⟨b, hb, e⟩ := List.mem_map.1 h
    have := hf b (by simp [hb]) a (by simp) e
    exact hn.1 (this ▸ hb)
theorem pick_nodup {l : List (Pc × Pc)} (hn : l.Nodup) (p : Pc) : (pick l p).Nodup := by
  refine nodup_map_on (hn.sublist List.filter_sublist) fun a ha b hb e => ?_
  have h1 : a.1 = p := by simpa using (List.mem_filter.1 ha).2
  have h2 : b.1 = p := by simpa using (List.mem_filter.1 hb).2
  exact Prod.ext (h1.trans h2.symm) e
theorem pick2_nodup {l : List (Pc × Pc)} (hn : l.Nodup) (p : Pc) : (pick2 l p).Nodup := by
  refine nodup_map_on (hn.sublist List.filter_sublist) fun a ha b hb e => ?_
  have h1 : a.2 = p := by simpa using (List.mem_filter.1 ha).2
  have h2 : b.2 = p := by simpa using (List.mem_filter.1 hb).2
  exact Prod.ext e (h1.trans h2.symm)
theorem pick_snoc (l : List (Pc × Pc)) (k q p : Pc) : pick (l ++ [(k, q)]) p = if k = p then pick l p ++ [q] else pick l p := by
  simp only [pick, List.filter_append, List.map_append]
  by_cases e : k = p <;> simp [e]
theorem pick2_snoc (l : List (Pc × Pc)) (k q p : Pc) : pick2 (l ++ [(k, q)]) p = if q = p then pick2 l p ++ [k] else pick2 l p := by
  simp only [pick2, List.filter_append, List.map_append]
  by_cases e : q = p <;> simp [e]
def keyOf (s : Sch) (p : Pc) : Option Pc := if (ndS s p).1.lab.1 = 0 then some (p.1, (ndS s p).1.lab.2.toNat) else none
def wtOf (s : Sch) (bg : List Pc) (k : Pc) : List Pc := bg.filter fun q => decide (keyOf s q = some k)
def wV (σ : St) (l : Lo) : AV := if σ.wn then .os (l .wk) σ.wk.length else .e0
def paC (s : Sch) (bl : List Bool) (σ : St) (l : Lo) : List AV := [.rs 2 (syCs s.syms), .rs 5 (fnCs s.funs), .rs 1 (NS s), .rs 1 (CSl s l), .mp (l .mh), .mp (l .mw), .mp (l .mi), .rs 1 (bCs bl), wV σ l, I (σ.cl.length : Nat)]
def ones (l : List AV) : List (List AV) := l.map fun x => [x]
@[simp] theorem ones_len (l : List AV) : (ones l).length = l.length := by simp [ones]
@[simp] theorem ones_app (l l' : List AV) : ones (l ++ l') = ones l ++ ones l' := by simp [ones]
@[simp] theorem ones_nil : ones [] = [] := rfl
theorem ones_one (x : AV) : ones [x] = [[x]] := rfl
theorem ones_sz (l : List AV) (i : Nat) (hi : i < (ones l).length) : ((ones l).getD i []).length = 1 := by
  have : i < l.length := by simpa using hi
  simp [ones, List.getD_eq_getElem?_getD, this]
def conS (s : Sch) (bl : List Bool) (σ : St) (l : Lo) : Con
  | .pa => some (.arr 10 [paC s bl σ l])
  | .mh => some (mpN σ.bg fun p => .mp (l (.hm p)))
  | .mw => some (mpN σ.kw fun k => .os (l (.wa k)) (wtOf s σ.bg k).length)
  | .mi => some (mpN σ.ki fun p => .os (l (.ia p)) (pick2 σ.cl p).length)
  | .cm k => if okK s k then some (mpN (pick σ.cl k) fun _ => B true) else none
  | .hm p => if p ∈ σ.bg then some (mpN (pick σ.hl p) fun _ => B true) else none
  | .wa k => if k ∈ σ.kw then some (.arr 2 ((wtOf s σ.bg k).map plC)) else none
  | .ia p => if p ∈ σ.ki then some (.arr 2 ((pick2 σ.cl p).map plC)) else none
  | .wk => if σ.wn then some (.arr 1 (ones (σ.wk ++ σ.jk))) else none
  | _ => none
def ovl (c X : Con) : Con := fun b => (c b).or (X b)
def Fx (l : Lo) (X : Con) (x : AV) : Prop := ∃ f caps, x = .fn f caps ∧ ∀ y, y ∈ caps → (∃ cs, y = .ro cs) ∨ ∃ a, X a ≠ none ∧ y = .op (l a) 0 0
theorem Fx.fz {l : Lo} {X : Con} {x : AV} (H : Fx l X x) {id : Nat} {cs : List AV} (hid : ∀ a, X a ≠ none → l a ≠ id) : fzW id cs x = x := by
  obtain ⟨f, caps, rfl, h⟩ := H
  simp only [fzW]
  congr 1
  refine (List.map_congr_left fun y hy => ?_).trans (List.map_id caps)
  rcases h y hy with ⟨cs', rfl⟩ | ⟨a, ha, rfl⟩
  · rfl
  · simp [fzA, hid a ha]
def St.push (σ : St) (ws : List AV) : St := { σ with wk := σ.wk ++ ws, jk := if ws.isEmpty then σ.jk else [], wn := σ.wn || !ws.isEmpty }
def St.mapW (σ : St) (f : AV → AV) : St := { σ with wk := σ.wk.map f, jk := σ.jk.map f }
theorem push_mapW (σ : St) (ws : List AV) {f : AV → AV} (h1 : ∀ x, x ∈ σ.wk → f x = x) (h2 : ∀ x, x ∈ σ.jk → f x = x) : (σ.push ws).mapW f = σ.push (ws.map f) := by
  have e1 : σ.wk.map f = σ.wk := (List.map_congr_left h1).trans (List.map_id _)
  have e2 : σ.jk.map f = σ.jk := (List.map_congr_left h2).trans (List.map_id _)
  simp only [St.push, St.mapW, List.map_append, e1, List.isEmpty_map]
  cases ws.isEmpty <;> simp [e2]
theorem push_push (σ : St) (a b : List AV) : (σ.push a).push b = σ.push (a ++ b) := by
  simp only [St.push, List.append_assoc]
  cases a with
  | nil => simp
  | cons x a => cases b <;> simp
@[simp] theorem push_nil (σ : St) : σ.push [] = σ := by simp [St.push]
@[simp] theorem fzN_ones (id : Nat) (cs : List AV) (l : List AV) : fzN id cs (.arr 1 (ones l)) = .arr 1 (ones (l.map (fzW id cs))) := by
  simp [fzN, ones]
theorem ld {h : Heap} {id z off : Nat} {cs : List AV} {x : AV} {k : AV → Prop} (hh : h id = some (.arr z [cs])) (ho : off < z) (hx : g cs off = x) (hk : k x) : loadV (.op id 0 off) h k := by
  rw [w_loadV_op hh]
  refine ⟨by simp, ho, ?_⟩
  simp only [List.getD_cons_zero, hx]; exact hk
theorem rdA {h : Heap} {i1 P n : Nat} {cs : List AV} {x : AV} {K : AV → AV → AV → Prop} (h1 : h i1 = some (.arr 1 [[.op P 0 0]])) (ha : h P = some (.arr 10 [cs])) (hn : n < 10) (hx : g cs n = x) (hk : K (.op P 0 0) (.op P 0 n) x) :
    loadV (.op i1 0 0) h fun a => nilA a <| fldA n a fun p => loadV p h fun x => K a p x := by
  refine ld (x := .op P 0 0) h1 (by omega) rfl ?_
  rw [w_nil_op, w_fld_op, Nat.zero_add]
  exact ld ha hn hx hk
theorem rdP {h : Heap} {P n : Nat} {cs : List AV} {x : AV} {K : AV → AV → Prop} (ha : h P = some (.arr 10 [cs])) (hn : n < 10) (hx : g cs n = x) (hk : K (.op P 0 n) x) :
    nilA (.op P 0 0) <| fldA n (.op P 0 0) fun p => loadV p h fun x => K p x := by
  rw [w_nil_op, w_fld_op, Nat.zero_add]
  exact ld ha hn hx hk
theorem ix_rs {h : Heap} {sz n : Nat} {els : List (List AV)} {cs : List AV} {K : AV → Prop} (hn : n < els.length) (he : els.getD n [] = cs) (hk : K (.ro cs)) : idxA sz (.rs sz els) (I (n : Nat)) h K := by
  rw [w_idx_rs, Int.toNat_natCast, he]
  exact ⟨rfl, by omega, by omega, hk⟩
theorem RC.wk_sz {hb h : Heap} {s : Sch} {bl : List Bool} {σ : St} {l : Lo} {X : Con} (hX : X .wk = none) : ∀ els, ovl (conS s bl σ l) X .wk = some (.arr 1 els) → ∀ i, i < els.length → (els.getD i []).length = 1 := by
  intro els he i hi
  simp only [ovl, conS] at he
  cases hw : σ.wn with
  | false => simp [hw, hX] at he
  | true =>
    simp only [hw, if_true] at he
    cases he
    exact ones_sz _ _ hi
theorem RC.fzS {hb h : Heap} {s : Sch} {bl : List Bool} {σ : St} {l : Lo} {X : Con} (R : RC hb (ovl (conS s bl σ l) X) l h) {t : Nat} {sz : Nat} {cs : List AV} (hX : X (.tmp t) = some (.arr sz [cs])) (hcs : cs.length = sz) (hXw : X .wk = none) :
    ∃ h', HRef h h' ∧ RC hb (ovl (conS s bl (σ.mapW (fzW (l (.tmp t)) cs)) l) (X.del (.tmp t))) l h' := by
  obtain ⟨h', e1, e2⟩ := R.freeze (t := .tmp t) (sz := sz) (cs := cs) (by simp [ovl, conS, hX]) hcs (by simp) (RC.wk_sz (h := h) (hb := hb) hXw)
  refine ⟨h', e1, e2.weak fun a n ha => ?_⟩
  cases a <;> simp only [ovl, conS, Con.fz, Con.del, paC, wV, List.length_map, St.mapW] at ha ⊢
  case tmp n =>
    by_cases e : n = t
    · subst e; simp at ha
    · simpa [e] using ha
  case wk =>
    cases hw : σ.wn with
    | false => simp [hw, hXw] at ha
    | true =>
      simp only [hw, if_true, Option.some_or, reduceCtorEq, if_false, Option.map_some, fzN_ones, List.map_append] at ha ⊢
      exact ha
  all_goals exact ha
theorem loop_downW {body : List AV → Heap → (List AV → Heap → Prop) → Prop} {σ : List AV} {h : Heap} (I : Nat → List AV → Heap → Prop) (n : Nat) (h0 : I n σ h)
    (step : ∀ m σ' h' K, I m σ' h' → (∀ m' σ'' h'', m' < m → Wk σ'' h'' (I m') → K σ'' h'') → body σ' h' K) : loopS body σ h := by
  refine ⟨I, Wk.refl ⟨n, h0⟩, ?_⟩
  intro m σ' h' hi hl
  exact step m σ' h' _ hi fun m' σ'' h'' hlt ⟨a, b, c, d, e, f⟩ => ⟨a, b, c, d, e, m', hlt, f⟩
theorem Wk.none {h h' : Heap} {K : List AV → Heap → Prop} {σ : List AV} (hh : HRef h h') (hk : K σ h') : Wk σ h K := ⟨σ, h', hh, rfl, fun _ _ => .refl, hk⟩
section
variable {hb h : Heap} {s : Sch} {bl : List Bool} {σ : St} {l : Lo} {X : Con}
theorem push_loop {F i1 i2 i4 : Nat} {n2 n4 : Node} (R : RC hb (ovl (conS s bl σ l) X) l h) (hX : ∀ a, (∀ n, a ≠ .tmp n) → a ≠ .it → X a = none) (hX3 : X (.tmp 3) = none) (e1 : l (.tmp 1) = i1) (e2 : l (.tmp 2) = i2) (e4 : l (.tmp 4) = i4)
    (h1 : X (.tmp 1) = some (.arr 1 [[.op (l .pa) 0 0]])) (h2 : X (.tmp 2) = some n2) (h4 : X (.tmp 4) = some n4) (hw : ∀ x, x ∈ σ.wk → Fx l X x) (hwn : σ.wn = false → σ.wk = []) {k : Pc} {xs len : AV}
    (hxs : xs = if k ∈ σ.kw then .os (l (.wa k)) (wtOf s σ.bg k).length else .e0) (hlen : len = I ((wtOf s σ.bg k).length : Nat)) (hkw : k ∉ σ.kw → wtOf s σ.bg k = []) (hsz : σ.wk.length + (wtOf s σ.bg k).length ≤ 10000000000000) {E : Heap → Prop}
    (hE : ∀ l' h', (∀ a, a ≠ .wk → a ≠ .tmp 3 → l' a = l a) → RC hb (ovl (conS s bl (σ.push ((wtOf s σ.bg k).map fun q => .fn F [.op i1 0 0, .ro (plC q), .op i4 0 0, .op i2 0 0])) l') X) l' h' → E h') :
    loopS (fun s_95 h_96 K_97 =>
      binA .lss (g s_95 0) len fun x_98 =>
      brA x_98 (idxA 2 xs (g s_95 0) h_96 fun p_99 =>
      loadG 2 p_99 h_96 fun c_100 =>
      newA 2 [(I 0), (I 0)] h_96 fun p_101 h_102 =>
      storeG p_101 [(g c_100 0), (g c_100 1)] h_102 fun h_103 =>
      loadV (.op i1 0 0) h_103 fun x_104 =>
      loadV (.op i1 0 0) h_103 fun x_105 =>
      nilA x_105 <|
      fldA 8 x_105 fun p_106 =>
      loadV p_106 h_103 fun x_107 =>
      oneA (.fn F [.op i1 0 0, p_101, .op i4 0 0, .op i2 0 0]) <|
      appA 1 8 x_107 (.rs 1 [[(.fn F [.op i1 0 0, p_101, .op i4 0 0, .op i2 0 0])]]) h_103 fun x_108 h_109 =>
      (loadV (.op i1 0 0) h_109 fun x_113 =>
      TV.av x_113 = TV.av x_104) ∧
      (nilA x_104 <|
      fldA 8 x_104 fun p_110 =>
      oneA x_108 <|
      storeG p_110 [x_108] h_109 fun h_111 =>
      binA .add (g s_95 0) (I 1) fun x_112 =>
      K_97 [x_112] h_111)) (E h_96)) [(I 0)] h := by
  subst e1; subst e2; subst e4; subst hlen
  generalize hwt : wtOf s σ.bg k = wt at *
  let cl : Pc → AV := fun q => .fn F [.op (l (.tmp 1)) 0 0, .ro (plC q), .op (l (.tmp 4)) 0 0, .op (l (.tmp 2)) 0 0]
  have hXw : X .wk = none := hX _ (by simp) (by simp)
  refine loop_upW wt.length (fun j σ' h' => σ' = [I j] ∧ ∃ l', (∀ a, a ≠ .wk → a ≠ .tmp 3 → l' a = l a) ∧ RC hb (ovl (conS s bl (σ.push ((wt.take j).map cl)) l') X) l' h')
    (Wk.refl ⟨rfl, l, fun _ _ _ => rfl, ?_⟩) (fun k σ' h' ⟨e, _⟩ => by rw [e]; rfl) ?_
  · have : σ.push ((wt.take 0).map cl) = σ := by simp [St.push]
    rw [this]; exact R
  rintro j σ' h' K hj ⟨rfl, l', hl', R'⟩ hK
  by_cases hlt : j < wt.length
  · have hlt' : (j : Int) < wt.length := by omega
    have hk : k ∈ σ.kw := by
      by_cases hk : k ∈ σ.kw
      · exact hk
      · have := hkw hk; subst this; simp at hlt
    have hne : wt ≠ [] := by rintro rfl; simp at hlt
    rw [if_pos hk] at hxs
    subst hxs
    simp only [g_0, w_lss, hlt', decide_true, w_brA, if_true]
    have ewa : h' (l (.wa k)) = some (.arr 2 (wt.map plC)) := by
      have := R'.own (.wa k) (.arr 2 (wt.map plC)) (by simp [ovl, conS, St.push, hk, hwt])
      rwa [hl' _ (by simp) (by simp)] at this
    rw [w_idx_os ewa]
    refine ⟨rfl, by omega, hlt', by simp, ?_⟩
    rw [Int.toNat_natCast, w_loadG_op ewa]
    have egd : (wt.map plC).getD j [] = plC wt[j] := by simp [List.getD_eq_getElem?_getD, hlt]
    rw [egd]
    refine ⟨by simpa using hlt, by omega, ?_⟩
    simp only [List.drop_zero, g_0, g_1]
    intro i3 hi3
    rw [w_store (Heap.set_same _ _ _)]
    refine ⟨by simp, by simp, ?_⟩
    rw [Heap.set_set]
    have esp : ([[I 0, I 0]] : List (List AV)).set 0 (splice (([[I 0, I 0]] : List (List AV)).getD 0 []) 0 [I (wt[j].1 : Nat), I (wt[j].2 : Nat)]) = [plC wt[j]] := rfl
    rw [esp]
    have R1 := R'.mk' (.tmp 3) (.arr 2 [plC wt[j]]) hi3
    have n3 : ∀ a, X a ≠ none → l a ≠ i3 := fun a ha => by
      have h3 : a ≠ .tmp 3 := fun e => ha (e ▸ hX3)
      have h4 : a ≠ .wk := fun e => ha (e ▸ hXw)
      have : ∃ n, ovl (conS s bl (σ.push ((wt.take j).map cl)) l') X a = some n := by
        simp only [ovl]
        cases hc : conS s bl (σ.push ((wt.take j).map cl)) l' a with
        | some n => exact ⟨n, rfl⟩
        | none => cases hh : X a with
          | none => exact absurd hh ha
          | some n => exact ⟨n, rfl⟩
      obtain ⟨n, hn⟩ := this
      have := R'.ne hn hi3
      rwa [hl' a h4 h3] at this
    generalize hh1 : h'.set i3 (.arr 2 [plC wt[j]]) = hA at *
    have x1 : hA (l (.tmp 1)) = some (.arr 1 [[.op (l .pa) 0 0]]) := by
      have := R1.own (.tmp 1) (.arr 1 [[.op (l .pa) 0 0]]) (by simp [Con.set, ovl, conS, h1])
      rwa [Lo.set_ne (by simp), hl' _ (by simp) (by simp)] at this
    have xa : hA (l .pa) = some (.arr 10 [paC s bl (σ.push ((wt.take j).map cl)) l']) := by
      have := R1.own .pa (.arr 10 [paC s bl (σ.push ((wt.take j).map cl)) l']) (by simp [Con.set, ovl, conS])
      rwa [Lo.set_ne (by simp), hl' _ (by simp) (by simp)] at this
    refine ld (x := .op (l .pa) 0 0) x1 (by omega) rfl ?_
    refine rdA x1 xa (by omega) rfl ?_
    rw [w_one_fn]
    have hwl : (σ.push ((wt.take j).map cl)).wk = σ.wk ++ (wt.take j).map cl := rfl
    refine R1.app1 .wk (els := ones (σ.wk ++ (wt.take j).map cl)) ?_ (by simp; omega) fun i h9 R2 => ?_
    · simp only [paC, g_s, g_0, wV]
      cases hwn' : (σ.push ((wt.take j).map cl)).wn with
      | false =>
        refine .inl ⟨by simp, ?_⟩
        simp only [St.push, Bool.or_eq_false_iff, Bool.not_eq_false'] at hwn'
        have h5 := hwn hwn'.1
        have h6 : (wt.take j).map cl = [] := by simpa using hwn'.2
        rw [h5, h6]; rfl
      | true =>
        refine .inr ⟨(σ.push ((wt.take j).map cl)).wk.length, ones ((σ.push ((wt.take j).map cl)).wk ++ (σ.push ((wt.take j).map cl)).jk), ?_, ?_, ?_, ?_⟩
        · rw [Lo.set_ne (by simp)]; simp
        · rw [Con.set_ne (by simp)]; simp only [ovl, conS, hwn', if_true, Option.some_or]
        · simp
        · have e5 : (σ.push ((wt.take j).map cl)).wk = σ.wk ++ (wt.take j).map cl := rfl
          rw [← e5, ones_app, ← ones_len, List.take_left]
    have y1 : h9 (l (.tmp 1)) = some (.arr 1 [[.op (l .pa) 0 0]]) := by
      have := R2.own (.tmp 1) (.arr 1 [[.op (l .pa) 0 0]]) (by simp [Con.set, ovl, conS, h1])
      rwa [Lo.set_ne (by simp), Lo.set_ne (by simp), hl' _ (by simp) (by simp)] at this
    have ya : h9 (l .pa) = some (.arr 10 [paC s bl (σ.push ((wt.take j).map cl)) l']) := by
      have := R2.own .pa (.arr 10 [paC s bl (σ.push ((wt.take j).map cl)) l']) (by simp [Con.set, ovl, conS])
      rwa [Lo.set_ne (by simp), Lo.set_ne (by simp), hl' _ (by simp) (by simp)] at this
    refine ⟨ld (x := .op (l .pa) 0 0) y1 (by omega) rfl rfl, ?_⟩
    rw [w_nil_op, w_fld_op, w_one_os, w_store ya]
    refine ⟨by simp, by simp, ?_⟩
    rw [w_add, wrap_k (k := j) (by omega)]
    have R3 := R2.upd (a := .pa) (.arr 10 [(paC s bl (σ.push ((wt.take j).map cl)) l').set 8 (.os i ((ones (σ.wk ++ (wt.take j).map cl)).length + 1))]) (m := .arr 10 [paC s bl (σ.push ((wt.take j).map cl)) l']) (by simp [Con.set, ovl, conS])
    rw [show ((l'.set (.tmp 3) i3).set .wk i) .pa = l .pa by rw [Lo.set_ne (by simp), Lo.set_ne (by simp), hl' _ (by simp) (by simp)]] at R3
    obtain ⟨hz, hz1, hz2⟩ := R3.freeze (t := .tmp 3) (sz := 2) (cs := plC wt[j]) (by simp [Con.set]) rfl (by simp) (fun els he => by
      have : els = ones (σ.wk ++ (wt.take j).map cl) ++ [[.fn F [.op (l (.tmp 1)) 0 0, .op i3 0 0, .op (l (.tmp 4)) 0 0, .op (l (.tmp 2)) 0 0]]] := by
        rw [Con.set_ne (by simp), Con.set_same] at he
        cases he; rfl
      rw [this, ← ones_one, ← ones_app]
      exact ones_sz _)
    refine hK hlt _ _ (Wk.none hz1 ⟨rfl, (l'.set (.tmp 3) i3).set .wk i, fun a ha hb => by rw [Lo.set_ne ha, Lo.set_ne hb]; exact hl' a ha hb, hz2.weak fun a n ha => ?_⟩)
    have ei3 : ((l'.set (.tmp 3) i3).set .wk i) (.tmp 3) = i3 := by rw [Lo.set_ne (by simp), Lo.set_same]
    rw [ei3]
    have etk : wt.take (j + 1) = wt.take j ++ [wt[j]] := List.take_succ_eq_append_getElem hlt
    cases a
    case wk =>
      have hc : ovl (conS s bl (σ.push ((wt.take (j + 1)).map cl)) ((l'.set (.tmp 3) i3).set .wk i)) X .wk = some (.arr 1 (ones (σ.wk ++ (wt.take j).map cl ++ [cl wt[j]]))) := by
        have e8 : (σ.push ((wt.take (j + 1)).map cl)).wn = true := by rw [etk]; simp [St.push, hne]
        have e9 : (σ.push ((wt.take (j + 1)).map cl)).jk = [] := by rw [etk]; simp [St.push, hne]
        simp only [ovl, conS, e8, e9, if_true, Option.some_or, List.append_nil]
        rw [etk, List.map_append, List.map_cons, List.map_nil]
        simp only [St.push, List.append_assoc]
      rw [hc] at ha
      cases ha
      have q1 : (ones (σ.wk ++ (wt.take j).map cl) ++ [[.fn F [.op (l (.tmp 1)) 0 0, .op i3 0 0, .op (l (.tmp 4)) 0 0, .op (l (.tmp 2)) 0 0]]] : List (List AV)) = ones (σ.wk ++ (wt.take j).map cl ++ [.fn F [.op (l (.tmp 1)) 0 0, .op i3 0 0, .op (l (.tmp 4)) 0 0, .op (l (.tmp 2)) 0 0]]) := by
        rw [ones_app _ [_], ones_app, ones_one]
      simp only [Con.fz, Con.set, reduceCtorEq, if_false, if_true, Option.map_some, q1, fzN_ones]
      congr 3
      rw [List.map_append]
      congr 1
      · refine (List.map_congr_left fun x hx => ?_).trans (List.map_id _)
        rcases List.mem_append.1 hx with hx | hx
        · exact (hw x hx).fz n3
        · obtain ⟨q, _, rfl⟩ := List.mem_map.1 hx
          refine Fx.fz (l := l) (X := X) ⟨F, _, rfl, fun y hy => ?_⟩ n3
          simp only [List.mem_cons, List.not_mem_nil, or_false] at hy
          rcases hy with rfl | rfl | rfl | rfl
          · exact .inr ⟨_, by rw [h1]; simp, rfl⟩
          · exact .inl ⟨_, rfl⟩
          · exact .inr ⟨_, by rw [h4]; simp, rfl⟩
          · exact .inr ⟨_, by rw [h2]; simp, rfl⟩
      · have m1 := n3 (.tmp 1) (by rw [h1]; simp)
        have m2 := n3 (.tmp 2) (by rw [h2]; simp)
        have m4 := n3 (.tmp 4) (by rw [h4]; simp)
        simp [fzW, fzA, m1, m2, m4, cl]
    case pa =>
      have hc : ovl (conS s bl (σ.push ((wt.take (j + 1)).map cl)) ((l'.set (.tmp 3) i3).set .wk i)) X .pa = some (.arr 10 [(paC s bl (σ.push ((wt.take j).map cl)) l').set 8 (.os i ((ones (σ.wk ++ (wt.take j).map cl)).length + 1))]) := by
        simp only [ovl, conS, Option.some_or]
        have e7 : wV (σ.push ((wt.take (j + 1)).map cl)) ((l'.set (.tmp 3) i3).set .wk i) = .os i ((ones (σ.wk ++ (wt.take j).map cl)).length + 1) := by
          have e8 : (σ.push ((wt.take (j + 1)).map cl)).wn = true := by rw [etk]; simp [St.push, hne]
          simp only [wV, e8, if_true, Lo.set_same]
          rw [etk]; simp [St.push]; omega
        have e9 : CSl s ((l'.set (.tmp 3) i3).set .wk i) = CSl s l' := by simp [CSl, Lo.set]
        simp only [paC, e7, e9]
        rfl
      rw [hc] at ha
      simpa [Con.fz, Con.set] using ha
    case tmp n =>
      by_cases e : n = 3
      · subst e; simp [ovl, conS, hX3] at ha
      · simpa [Con.fz, Con.set, e, ovl, conS] using ha
    all_goals first | (simp [ovl, conS, hX] at ha; done) | simpa [Con.fz, Con.set, ovl, conS, St.push, Lo.set, hX] using ha
  · have hjn : j = wt.length := by omega
    subst hjn
    simp only [g_0, w_lss, Int.lt_irrefl, decide_false, w_brA, Bool.false_eq_true, if_false]
    rw [List.take_length] at R'
    exact hE l' h' hl' R'
end
end Am
