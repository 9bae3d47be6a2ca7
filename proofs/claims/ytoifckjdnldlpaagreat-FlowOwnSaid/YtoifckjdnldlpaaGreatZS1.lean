/- slices.Sort and slices.Compact at []int, as the abstract machine takes them: an own slice's elements are sorted; runs are cut to one. -/
import Derived.Test.YtoifckjdnldlpaaGreatZS0
import Derived.Test.YtoifckjdnldlpaaGreatZK2
set_option linter.unusedVariables false
set_option linter.unusedSimpArgs false
namespace Am
open Go Go.Proofs
def iels (zs : List Int) : List (List AV) := zs.map fun z => [I z]
@[simp] theorem iels_len (zs : List Int) : (iels zs).length = zs.length := by simp [iels]
theorem iels_get (zs : List Int) {i : Nat} (hi : i < zs.length) : (iels zs).getD i [] = [I (zs.getD i 0)] := by
  simp [iels, List.getD, List.getElem?_map, List.getElem?_eq_getElem hi]
theorem Ev.grow {w : World} {C : Cx} {h : Heap} (H : MRel w C h) : ∀ os : List Obj, Ev w C h (Sort.grow w os.toArray) C h
  | [] => by rw [show Sort.grow w [].toArray = w from Sort.grow_empty w]; exact Ev.refl H
  | o :: os => by
    have a := Ev.alloc H o
    have b := Ev.grow a.rel os
    have e : Sort.grow (w.alloc o) os.toArray = Sort.grow w (o :: os).toArray := by
      rw [Sort.alloc_eq_grow, Sort.grow_grow]; simp
    rw [e] at b
    exact a.trans b
theorem holds_of_arel {w : World} {C : Cx} {o : Own} {zs : List Int} {rest : List (List AV)} (H : ARel w C o 1 (iels zs ++ rest)) : Sort.Holds (Value.int .i64) w o.blk 0 zs.toArray := by
  obtain ⟨h1, h2, h3, c, e, hc, hs, hv⟩ := H
  intro j hj
  have hj' : j < zs.length := by simpa using hj
  obtain ⟨v, hv1, hv2, hv3⟩ := hv j 0 (by simp; omega) (by omega)
  have hg : (iels zs ++ rest).getD j [] = [I (zs.getD j 0)] := by
    rw [← iels_get zs hj']
    simp [List.getD, List.getElem?_append_left, hj']
  rw [hg] at hv3
  have hv4 := rep_val hv3
  subst hv4
  simp only [Nat.mul_one, Nat.add_zero] at hv1
  constructor
  · simp only [World.cell?, hc, Nat.zero_add]
    simp [hv1, hj', List.getD, List.getElem?_eq_getElem hj']
  · simp [World.frozen?, hc]
theorem arel_put {w w' : World} {C : Cx} {o : Own} {zs ts : List Int} (hl : ts.length = zs.length) (H : ARel w C o 1 (iels zs)) {n : Nat} (hw : w' = Sort.putRow (Value.int .i64) (Sort.ahead w n) o.blk 0 ts.toArray) : ARel w' C o 1 (iels ts) := by
  obtain ⟨h1, h2, h3, c, e, hc, hs, hv⟩ := H
  refine ⟨h1, fun i hi => by rw [iels_get ts (by simpa using hi)]; rfl, by simpa [hl] using h3, Sort.putCells (Value.int .i64) 0 ts.toArray c, e, ?_, by simp [Sort.putCells, hs], ?_⟩
  · subst hw
    have hb : o.blk < w.heap.size := (Array.getElem?_eq_some_iff.1 hc).1
    simp [Sort.putRow, Sort.mapBlock, Sort.ahead, Array.getElem?_modify, hc, Sort.onCells]
  · intro i j hi hj
    obtain rfl : j = 0 := by omega
    have hi' : i < ts.length := by simpa using hi
    have hic : i < c.size := by have : zs.length ≤ o.n := by simpa using h3
                                omega
    refine ⟨.int .i64 (ts.getD i 0), ?_, rfl, ?_⟩
    · simp [Sort.putCells, hic, hi', List.getD, List.getElem?_eq_getElem hi']
    · rw [iels_get ts hi']; exact .val rfl
theorem Ev.putRow {w : World} {C : Cx} {h : Heap} (H : MRel w C h) {id : Nat} {o : Own} {zs ts : List Int} (hn : h id = some (.arr 1 (iels zs))) (ho : C.mu id = some o) (hl : ts.length = zs.length) (n : Nat) :
    Ev w C h (Sort.putRow (Value.int .i64) (Sort.ahead w n) o.blk 0 ts.toArray) C (h.set id (.arr 1 (iels ts))) := by
  refine Ev.setOwn H hn ho ?_ (by simp [Sort.putRow, Sort.mapBlock, Sort.ahead]) rfl rfl rfl ?_
  · intro b hb
    have hb' : ¬ o.blk = b := fun e => hb e.symm
    simp [Sort.putRow, Sort.mapBlock, Sort.ahead, Array.getElem?_modify, hb']
  · intro _
    obtain ⟨o', h1, _, h3⟩ := H.own id _ hn
    rw [ho] at h1; cases h1
    exact arel_put hl h3 rfl
theorem own_arel {w : World} {C : Cx} {h : Heap} (H : MRel w C h) {id : Nat} {nd : Node} {o : Own} (hn : h id = some nd) (ho : C.mu id = some o) : NRel w C o nd ∧ o.blk < w.heap.size := by
  obtain ⟨o', h1, h2, h3⟩ := H.own id nd hn
  rw [ho] at h1; cases h1
  exact ⟨h3, h3.blk_lt⟩
theorem sort_c {zs : List Int} {h : Heap} {id : Nat} {Q : AV → Heap → Prop} (hn : h id = some (.arr 1 (iels zs))) (hz : zs.length < 4611686018427387904)
    (hq : Q (.tup []) (h.set id (.arr 1 (iels (zs.mergeSort fun x y => decide (x ≤ y)))))) : ACalls Tryz.prog 61 [.os id zs.length] h Q := by
  refine ⟨⟨Tryz.f61, _, Tryz.func61, rfl, by decide +kernel⟩, fun w C vs H hvs hr => ?_⟩
  have hr0 := hr 0 (by simp)
  obtain ⟨v, rfl⟩ : ∃ v, vs = #[v] := by
    have : vs.size = 1 := hvs
    exact ⟨vs[0], by apply Array.ext (by simp [this]); intro i h1 h2; obtain rfl : i = 0 := by simpa using h2
                     rfl⟩
  simp only [g] at hr0
  have hr1 : Rep w C (.os id zs.length) v := hr0
  cases hr1 with
  | os hm hl hcap =>
    rename_i cap o
    obtain ⟨hN, hb⟩ := own_arel H hn hm
    have hH : Sort.Holds (Value.int .i64) w o.blk 0 zs.toArray := holds_of_arel (rest := []) (by rw [List.append_nil]; exact hN)
    refine Calls.mono (Tryz.slices_Sort_int o.blk 0 cap zs w hH hb hz) ?_
    rintro e w' ⟨rfl, n, os, rfl⟩
    have a := Ev.putRow H hn hm (zs := zs) (ts := zs.mergeSort fun x y => decide (x ≤ y)) (by simp) n
    have b := Ev.grow a.rel os.toList
    exact ⟨_, C, _, .tup [], rfl, a.trans b, .tup #[] rfl (fun j hj => absurd hj (by simp)), hq⟩
theorem sort_nil {h : Heap} {Q : AV → Heap → Prop} (hq : Q (.tup []) h) : ACalls Tryz.prog 61 [.e0] h Q := by
  refine ⟨⟨Tryz.f61, _, Tryz.func61, rfl, by decide +kernel⟩, fun w C vs H hvs hr => ?_⟩
  have hr0 := hr 0 (by simp)
  obtain ⟨v, rfl⟩ : ∃ v, vs = #[v] := by
    have : vs.size = 1 := hvs
    exact ⟨vs[0], by apply Array.ext (by simp [this]); intro i h1 h2; obtain rfl : i = 0 := by simpa using h2
                     rfl⟩
  have hr1 : Rep w C .e0 v := hr0
  cases hr1 with
  | e0 =>
    rename_i a
    refine Calls.mono (Tryz.slices_Sort_int_none a 0 w) ?_
    rintro e w' ⟨rfl, rfl⟩
    exact ⟨_, C, h, .tup [], rfl, Ev.refl H, .tup #[] rfl (fun j hj => absurd hj (by simp)), hq⟩
theorem compact_c {zs : List Int} {h : Heap} {id : Nat} {Q : AV → Heap → Prop} (hn : h id = some (.arr 1 (iels zs))) (hz : zs.length ≤ 9223372036854775807)
    (hq : Q (.os id (Lib.compact zs).length) (h.set id (.arr 1 (iels (Lib.compact zs ++ List.replicate (zs.length - (Lib.compact zs).length) 0))))) (hc : (Lib.compact zs).length ≤ zs.length) : ACalls Tryz.prog 62 [.os id zs.length] h Q := by
  refine ⟨⟨Tryz.f62, _, Tryz.func62, rfl, by decide +kernel⟩, fun w C vs H hvs hr => ?_⟩
  have hr0 := hr 0 (by simp)
  obtain ⟨v, rfl⟩ : ∃ v, vs = #[v] := by
    have : vs.size = 1 := hvs
    exact ⟨vs[0], by apply Array.ext (by simp [this]); intro i h1 h2; obtain rfl : i = 0 := by simpa using h2
                     rfl⟩
  have hr1 : Rep w C (.os id zs.length) v := hr0
  cases hr1 with
  | os hm hl hcap =>
    rename_i cap o
    obtain ⟨hN, hb⟩ := own_arel H hn hm
    have hH : Sort.Holds (Value.int .i64) w o.blk 0 zs.toArray := holds_of_arel (rest := []) (by rw [List.append_nil]; exact hN)
    refine Calls.mono (Tryz.slices_Compact_int o.blk 0 cap zs w hH hz hl) ?_
    rintro e w' ⟨rfl, n, rfl⟩
    have a := Ev.putRow H hn hm (zs := zs) (ts := Lib.compact zs ++ List.replicate (zs.length - (Lib.compact zs).length) 0) (by simp; omega) n
    exact ⟨_, C, _, .os id (Lib.compact zs).length, rfl, a, .os hm (by omega) hcap, hq⟩
theorem compact_nil {h : Heap} {Q : AV → Heap → Prop} (hq : Q .e0 h) : ACalls Tryz.prog 62 [.e0] h Q := by
  refine ⟨⟨Tryz.f62, _, Tryz.func62, rfl, by decide +kernel⟩, fun w C vs H hvs hr => ?_⟩
  have hr0 := hr 0 (by simp)
  obtain ⟨v, rfl⟩ : ∃ v, vs = #[v] := by
    have : vs.size = 1 := hvs
    exact ⟨vs[0], by apply Array.ext (by simp [this]); intro i h1 h2; obtain rfl : i = 0 := by simpa using h2
                     rfl⟩
  have hr1 : Rep w C .e0 v := hr0
  cases hr1 with
  | e0 =>
    rename_i a
    refine Calls.mono (Tryz.slices_Compact_int_empty a 0 w) ?_
    rintro e w' ⟨rfl, rfl⟩
    exact ⟨_, C, h, .e0, rfl, Ev.refl H, .e0, hq⟩
end Am
