/- slices.SortFunc at flow.Place, laid at this program out of the shelf, and as the abstract machine takes it: an own slice of places is put in order. -/
import Derived.Shelf.SlSortCmp.NoneTotal
import Derived.Test.YtoifckjdnldlpaaGreatZS4
import Derived.Test.YtoifckjdnldlpaaGreatZFW
set_option linter.unusedVariables false
set_option linter.unusedSimpArgs false
namespace Go.Proofs
open Go.Shelf Go.RowKit Go.Lib Go.Sort
def Tryz.laysF_ren : Go.Shelf.Ren := ⟨fun | 6 => 120 | 15 => 114 | 14 => 170 | 28 => 166 | 29 => 167 | 20 => 196 | 21 => 197 | 22 => 198 | 23 => 199 | 24 => 200 | 25 => 201 | 26 => 202 | 27 => 203 | 46 => 210 | 47 => 190 | 48 => 191 | 49 => 211 | 50 => 212 | 57 => 214 | n => n, fun | 22 => 94 | 24 => 46 | 25 => 186 | 3 => 3 | 39 => 179 | 0 => 0 | 53 => 222 | 55 => 224 | 4 => 4 | 46 => 215 | 45 => 214 | 50 => 146 | 5 => 5 | 9 => 9 | 66 => 239 | 70 => 164 | 76 => 253 | 77 => 133 | n => n, fun | n => n⟩
theorem Tryz.laysF : Go.Proofs.SlLaysF0.n6 Tryz.prog Tryz.laysF_ren := {
  mixed := by kernel_rfl
  f6 := ⟨ "slices.SortFunc[[]virgation/flow.Place,virgation/flow.Place]", by decide, Tryz.func120.trans (congrArg some (by kernel_rfl))⟩
  f14 := ⟨ "slices.pdqsortCmpFunc[virgation/flow.Place]", by decide, Tryz.func170.trans (congrArg some (by kernel_rfl))⟩
  f15 := Tryz.func114.trans (congrArg some (by kernel_rfl))
  f20 := ⟨ "slices.insertionSortCmpFunc[virgation/flow.Place]", by decide, Tryz.func196.trans (congrArg some (by kernel_rfl))⟩
  f21 := ⟨ "slices.heapSortCmpFunc[virgation/flow.Place]", by decide, Tryz.func197.trans (congrArg some (by kernel_rfl))⟩
  f22 := ⟨ "slices.breakPatternsCmpFunc[virgation/flow.Place]", by decide, Tryz.func198.trans (congrArg some (by kernel_rfl))⟩
  f23 := ⟨ "slices.choosePivotCmpFunc[virgation/flow.Place]", by decide, Tryz.func199.trans (congrArg some (by kernel_rfl))⟩
  f24 := ⟨ "slices.reverseRangeCmpFunc[virgation/flow.Place]", by decide, Tryz.func200.trans (congrArg some (by kernel_rfl))⟩
  f25 := ⟨ "slices.partialInsertionSortCmpFunc[virgation/flow.Place]", by decide, Tryz.func201.trans (congrArg some (by kernel_rfl))⟩
  f26 := ⟨ "slices.partitionEqualCmpFunc[virgation/flow.Place]", by decide, Tryz.func202.trans (congrArg some (by kernel_rfl))⟩
  f27 := ⟨ "slices.partitionCmpFunc[virgation/flow.Place]", by decide, Tryz.func203.trans (congrArg some (by kernel_rfl))⟩
  f28 := Tryz.func166.trans (congrArg some (by kernel_rfl))
  f29 := Tryz.func167.trans (congrArg some (by kernel_rfl))
  f46 := ⟨ "slices.siftDownCmpFunc[virgation/flow.Place]", by decide, Tryz.func210.trans (congrArg some (by kernel_rfl))⟩
  f47 := Tryz.func190.trans (congrArg some (by kernel_rfl))
  f48 := Tryz.func191.trans (congrArg some (by kernel_rfl))
  f49 := ⟨ "slices.medianAdjacentCmpFunc[virgation/flow.Place]", by decide, Tryz.func211.trans (congrArg some (by kernel_rfl))⟩
  f50 := ⟨ "slices.medianCmpFunc[virgation/flow.Place]", by decide, Tryz.func212.trans (congrArg some (by kernel_rfl))⟩
  f57 := ⟨ "slices.order2CmpFunc[virgation/flow.Place]", by decide, Tryz.func214.trans (congrArg some (by kernel_rfl))⟩
  t0 := Tryz.underlying0
  a0 := Tryz.isAgg0
  z0 := Tryz.sizeOf0
  v0 := Tryz.zeroValue0
  t3 := Tryz.underlying3
  a3 := Tryz.isAgg3
  z3 := Tryz.sizeOf3
  v3 := Tryz.zeroValue3
  t4 := Tryz.underlying4
  a4 := Tryz.isAgg4
  z4 := Tryz.sizeOf4
  v4 := Tryz.zeroValue4
  t5 := Tryz.underlying5
  a5 := Tryz.isAgg5
  z5 := Tryz.sizeOf5
  v5 := Tryz.zeroValue5
  t9 := Tryz.underlying9
  a9 := Tryz.isAgg9
  z9 := Tryz.sizeOf9
  v9 := Tryz.zeroValue9
  t22 := Tryz.underlying94
  a22 := Tryz.isAgg94
  z22 := Tryz.sizeOf94
  v22 := Tryz.zeroValue94
  t25 := Tryz.underlying186
  a25 := Tryz.isAgg186
  z25 := Tryz.sizeOf186
  v25 := Tryz.zeroValue186
  t39 := Tryz.underlying179
  a39 := Tryz.isAgg179
  z39 := Tryz.sizeOf179
  v39 := Tryz.zeroValue179
  t45 := Tryz.underlying214
  a45 := Tryz.isAgg214
  z45 := Tryz.sizeOf214
  v45 := Tryz.zeroValue214
  t46 := Tryz.underlying215
  a46 := Tryz.isAgg215
  z46 := Tryz.sizeOf215
  v46 := Tryz.zeroValue215
  t50 := Tryz.underlying146
  a50 := Tryz.isAgg146
  z50 := Tryz.sizeOf146
  v50 := Tryz.zeroValue146
  t53 := Tryz.underlying222
  a53 := Tryz.isAgg222
  z53 := Tryz.sizeOf222
  v53 := Tryz.zeroValue222
  t55 := Tryz.underlying224
  a55 := Tryz.isAgg224
  z55 := Tryz.sizeOf224
  v55 := Tryz.zeroValue224
  t66 := Tryz.underlying239
  a66 := Tryz.isAgg239
  z66 := Tryz.sizeOf239
  v66 := Tryz.zeroValue239
  t70 := Tryz.underlying164
  a70 := Tryz.isAgg164
  z70 := Tryz.sizeOf164
  v70 := Tryz.zeroValue164
  t76 := Tryz.underlying253
  a76 := Tryz.isAgg253
  z76 := Tryz.sizeOf253
  v76 := Tryz.zeroValue253
  t77 := Tryz.underlying133
  a77 := Tryz.isAgg133
  z77 := Tryz.sizeOf133
  v77 := Tryz.zeroValue133
}
def encP (x : Fin 1000000 × Fin 1000000) : List Value := [.int .i64 (x.1.val : Int), .int .i64 (x.2.val : Int)]
def cmpP (x y : Fin 1000000 × Fin 1000000) : Int := if x.1.val = y.1.val then (x.2.val : Int) - y.2.val else (x.1.val : Int) - y.1.val
theorem ltP (x y : Fin 1000000 × Fin 1000000) : ltOf cmpP x y = decide (x.1.val < y.1.val ∨ (x.1.val = y.1.val ∧ x.2.val < y.2.val)) := by
  unfold ltOf cmpP
  by_cases h : x.1.val = y.1.val
  · rw [if_pos h]; congr 1; apply propext; omega
  · rw [if_neg h]; congr 1; apply propext; omega
theorem swoP : SWO (ltOf cmpP) where
  irrefl x := by rw [ltP]; simp
  trans x y z h1 h2 := by rw [ltP] at *; simp only [decide_eq_true_eq] at *; omega
  ntrans x y z h1 h2 := by rw [ltP] at *; simp only [decide_eq_false_iff_not] at *; omega
set_option maxHeartbeats 1000000 in
theorem Tryz.closureP (x y : Fin 1000000 × Fin 1000000) (W : World) : Calls Tryz.prog 121 #[.agg #[.int .i64 (x.1.val : Int), .int .i64 (x.2.val : Int)], .agg #[.int .i64 (y.1.val : Int), .int .i64 (y.2.val : Int)]] W fun e w' => e = .returned (.int .i64 (cmpP x y)) ∧ ∃ q os', w' = grow (W.drewN q) os' := by
  obtain ⟨⟨a, ha⟩, ⟨b, hb⟩⟩ := x
  obtain ⟨⟨c, hc⟩, ⟨d, hd⟩⟩ := y
  by_cases h : a = c
  · subst h
    have e : cmpP (⟨a, ha⟩, ⟨b, hb⟩) (⟨a, hc⟩, ⟨d, hd⟩) = (b : Int) - d := by simp [cmpP]
    have ew : IntKind.i64.wrap ((b : Int) - d) = (b : Int) - d := by rw [IntKind.wrap_i64]; omega
    rw [e]
    clear e
    go_enter Tryz.func121, Tryz.ntmps121
    go_wp2
    go_ret
    exact ⟨rfl, 0, _, by rw [alloc_eq_grow, alloc_eq_grow, grow_grow]; rfl⟩
  · have e : cmpP (⟨a, ha⟩, ⟨b, hb⟩) (⟨c, hc⟩, ⟨d, hd⟩) = (a : Int) - c := by simp [cmpP, h]
    have ew : IntKind.i64.wrap ((a : Int) - c) = (a : Int) - c := by rw [IntKind.wrap_i64]; omega
    rw [e]
    clear e
    go_enter Tryz.func121, Tryz.ntmps121
    go_wp2
    go_ret
    exact ⟨rfl, 0, _, by rw [alloc_eq_grow, alloc_eq_grow, grow_grow]; rfl⟩
theorem Tryz.cmpLaysP (blk off size : Nat) (w : World) : CmpLays Tryz.prog 121 #[] encP 2 cmpP blk off size w :=
  fun _ _ _ _ x y => Tryz.closureP x y _
theorem Tryz.sortP (blk off cap : Nat) (d : Array (Fin 1000000 × Fin 1000000)) (w : World) (hH : HoldsK encP 2 w blk off d) (hblk : blk < w.heap.size) (hsz : d.size < 4611686018427387904) :
    Calls Tryz.prog 120 #[.slice (some ⟨blk, off, none⟩) d.size cap, .func (.func 121) #[] #[]] w fun e w' =>
      e = .returned (.tuple #[]) ∧ ∃ d' n os, PermIn 0 d.size d d' ∧ SortedIn (ltOf cmpP) 0 d.size d' ∧ w' = sortWorldK encP 2 w blk off n d' os := by
  have eg : ∀ args w, (callFunc 121 args).run Tryz.prog w = .ok (.enter 121 args) w := enters_of Tryz.func121 (by kernel_rfl) rfl
  exact AnyQ.slices_SortFunc Tryz.laysF 2 Tryz.isAgg46 Tryz.sizeOf46 encP (fun _ => rfl) (fun x v hv => by simp [encP] at hv; rcases hv with rfl | rfl <;> rfl) cmpP swoP 121 #[] blk off cap d w eg (Tryz.cmpLaysP blk off d.size w) hH hblk hsz
end Go.Proofs
namespace Am
open Go Go.Proofs
abbrev FP := Fin 1000000 × Fin 1000000
def finP (p : Pc) : FP := (⟨p.1 % 1000000, Nat.mod_lt _ (by omega)⟩, ⟨p.2 % 1000000, Nat.mod_lt _ (by omega)⟩)
def valP (x : FP) : Pc := (x.1.val, x.2.val)
theorem valP_finP {p : Pc} (h : p.1 < 1000000 ∧ p.2 < 1000000) : valP (finP p) = p := by
  obtain ⟨a, b⟩ := p
  simp [valP, finP, Nat.mod_eq_of_lt h.1, Nat.mod_eq_of_lt h.2]
theorem encP_get (x : FP) (j : Nat) (hj : j < 2) : ∃ n : Int, (encP x)[j]! = .int .i64 n ∧ (plC (valP x)).getD j .any = I n := by
  match j, hj with
  | 0, _ => exact ⟨_, rfl, rfl⟩
  | 1, _ => exact ⟨_, rfl, rfl⟩
theorem Ev.growF {w : World} {C : Cx} {h : Heap} (H : MRel w C h) : ∀ os : List Obj, Ev w C h (Sort.grow w os.toArray) C h
  | [] => by rw [show Sort.grow w [].toArray = w from Sort.grow_empty w]; exact Ev.refl H
  | o :: os => by
    have a := Ev.alloc H o
    have b := Ev.growF a.rel os
    have e : Sort.grow (w.alloc o) os.toArray = Sort.grow w (o :: os).toArray := by
      rw [Sort.alloc_eq_grow, Sort.grow_grow]; simp
    rw [e] at b
    exact a.trans b
theorem own_arelF {w : World} {C : Cx} {h : Heap} (H : MRel w C h) {id : Nat} {nd : Node} {o : Own} (hn : h id = some nd) (ho : C.mu id = some o) : NRel w C o nd ∧ o.blk < w.heap.size := by
  obtain ⟨o', h1, h2, h3⟩ := H.own id nd hn
  rw [ho] at h1; cases h1
  exact ⟨h3, h3.blk_lt⟩
theorem flat_getP (d : List FP) {t : Nat} (ht : t < d.length * 2) : ∃ h : t / 2 < d.length, (Sort.flatK encP 2 d.toArray)[t]! = (encP d[t / 2])[t % 2]! := by
  have h : t / 2 < d.length := by omega
  refine ⟨h, ?_⟩
  rw [Sort.get_flatK encP 2 _ t (by simpa using ht)]
  congr 2
  simp [h]
theorem holdsP {w : World} {C : Cx} {o : Own} {ps : List Pc} {d : List FP} (hd : d.map valP = ps) (H : ARel w C o 2 (ps.map plC)) : Sort.HoldsK encP 2 w o.blk 0 d.toArray := by
  obtain ⟨h1, h2, h3, c, e, hc, hs, hv⟩ := H
  have hl : ps.length = d.length := by rw [← hd]; simp
  intro t ht
  have ht' : t < d.length * 2 := by simpa using ht
  obtain ⟨hi, hg⟩ := flat_getP d ht'
  obtain ⟨v, hv1, hv2, hv3⟩ := hv (t / 2) (t % 2) (by simp; omega) (by omega)
  obtain ⟨n, e1, e2⟩ := encP_get d[t / 2] (t % 2) (by omega)
  have egd : (ps.map plC).getD (t / 2) [] = plC (valP d[t / 2]) := by
    subst hd
    simp [List.getD_eq_getElem?_getD, hi]
  rw [egd, e2] at hv3
  have hv4 := rep_val hv3
  subst hv4
  have et : t / 2 * 2 + t % 2 = t := by omega
  rw [et] at hv1
  constructor
  · rw [hg, e1]
    simp only [World.cell?, hc, Nat.zero_add]
    simp [hv1]
  · simp [World.frozen?, hc]
theorem arel_putP {w w' : World} {C : Cx} {o : Own} {ps ts : List Pc} {d : List FP} (hd : d.map valP = ts) (hl : ts.length = ps.length) (H : ARel w C o 2 (ps.map plC)) {n : Nat} (hw : w' = Sort.putRowK encP 2 (Sort.ahead w n) o.blk 0 d.toArray) : ARel w' C o 2 (ts.map plC) := by
  obtain ⟨h1, h2, h3, c, e, hc, hs, hv⟩ := H
  have hld : ts.length = d.length := by rw [← hd]; simp
  refine ⟨h1, fun i hi => ?_, by simpa [hl] using h3, Sort.putCells id 0 (Sort.flatK encP 2 d.toArray) c, e, ?_, by simp [Sort.putCells, hs], ?_⟩
  · have : i < ts.length := by simpa using hi
    simp [List.getD_eq_getElem?_getD, this]
  · subst hw
    have hb : o.blk < w.heap.size := (Array.getElem?_eq_some_iff.1 hc).1
    simp [Sort.putRowK, Sort.putRow, Sort.mapBlock, Sort.ahead, Array.getElem?_modify, hc, Sort.onCells]
  · intro i j hi hj
    have hi' : i < ts.length := by simpa using hi
    have hid : i < d.length := by omega
    have hic : i * 2 + j < c.size := by
      have : ps.length * 2 ≤ o.n := by simpa using h3
      omega
    have ht : i * 2 + j < d.length * 2 := by omega
    obtain ⟨hq, hg⟩ := flat_getP d ht
    have e1 : (i * 2 + j) / 2 = i := by omega
    have e2 : (i * 2 + j) % 2 = j := by omega
    obtain ⟨m, q1, q2⟩ := encP_get d[i] j hj
    have hg2 : (Sort.flatK encP 2 d.toArray)[i * 2 + j]! = .int .i64 m := by
      rw [hg]; simp only [e1, e2]; exact q1
    have egd : (ts.map plC).getD i [] = plC (valP d[i]) := by
      subst hd
      simp [List.getD_eq_getElem?_getD, hid]
    refine ⟨.int .i64 m, ?_, rfl, ?_⟩
    · rw [← hg2]
      simp [Sort.putCells, hic, ht]
    · rw [egd, q2]; exact .val rfl
theorem Ev.putP {w : World} {C : Cx} {h : Heap} (H : MRel w C h) {id : Nat} {o : Own} {ps ts : List Pc} {d : List FP} (hd : d.map valP = ts) (hn : h id = some (.arr 2 (ps.map plC))) (ho : C.mu id = some o) (hl : ts.length = ps.length) (n : Nat) :
    Ev w C h (Sort.putRowK encP 2 (Sort.ahead w n) o.blk 0 d.toArray) C (h.set id (.arr 2 (ts.map plC))) := by
  refine Ev.setOwn H hn ho ?_ (by simp [Sort.putRowK, Sort.putRow, Sort.mapBlock, Sort.ahead]) rfl rfl rfl ?_
  · intro b hb
    have hb' : ¬ o.blk = b := fun e => hb e.symm
    simp [Sort.putRowK, Sort.putRow, Sort.mapBlock, Sort.ahead, Array.getElem?_modify, hb']
  · intro _
    obtain ⟨o', h1, _, h3⟩ := H.own id _ hn
    rw [ho] at h1; cases h1
    exact arel_putP hd hl h3 rfl
theorem sortF_c {ps : List Pc} {h : Heap} {id : Nat} {Q : AV → Heap → Prop} (hn : h id = some (.arr 2 (ps.map plC))) (hb : ∀ p, p ∈ ps → p.1 < 1000000 ∧ p.2 < 1000000) (hz : ps.length < 4611686018427387904) (hq : Q (.tup []) (h.set id (.arr 2 ((srtP ps).map plC)))) :
    ACalls Tryz.prog 120 [.os id ps.length, .fn 121 []] h Q := by
  refine ⟨⟨Tryz.f120, _, Tryz.func120, rfl, by decide +kernel⟩, fun w C vs H hvs hr => ?_⟩
  obtain ⟨v, u, rfl⟩ : ∃ v u, vs = #[v, u] := by
    have : vs.size = 2 := hvs
    exact ⟨vs[0], vs[1], by
      apply Array.ext (by simp [this])
      intro i h1 h2
      match i, h2 with
      | 0, _ => rfl
      | 1, _ => rfl⟩
  have hr0 : Rep w C (.os id ps.length) v := hr 0 (by simp)
  have hr1 : Rep w C (.fn 121 []) u := hr 1 (by simp)
  cases hr1 with
  | fn cb hs _ =>
    have : cb = #[] := by
      have : cb.size = 0 := hs
      exact Array.eq_empty_of_size_eq_zero this
    subst this
    cases hr0 with
    | os hm hl hcap =>
      rename_i cap o
      obtain ⟨hN, hb2⟩ := own_arelF H hn hm
      have hd : (ps.map finP).map valP = ps := by
        rw [List.map_map]
        exact (List.map_congr_left fun p hp => valP_finP (hb p hp)).trans (List.map_id _)
      have hH : Sort.HoldsK encP 2 w o.blk 0 (ps.map finP).toArray := holdsP hd hN
      have hsz : (ps.map finP).toArray.size = ps.length := by simp
      have key := Tryz.sortP o.blk 0 cap (ps.map finP).toArray w hH hb2 (by rw [hsz]; exact hz)
      rw [hsz] at key
      refine Calls.mono key ?_
      rintro e w' ⟨rfl, d', n, os, hP, hS, rfl⟩
      obtain ⟨p1, _, p3⟩ := hP
      have es : d'.size = ps.length := by rw [p1, hsz]
      have hperm : d'.toList.Perm (ps.map finP) := by
        have a1 : (d'.extract 0 ps.length) = d' := by rw [← es]; exact Array.extract_size
        have a2 : ((ps.map finP).toArray.extract 0 ps.length) = (ps.map finP).toArray := by rw [← hsz]; exact Array.extract_size
        rw [a1, a2] at p3
        simpa using p3
      have hts : d'.toList.map valP = srtP ps := by
        refine srtP_uniq ?_ ?_
        · have := hperm.map valP
          rwa [hd] at this
        · rw [List.pairwise_map, List.pairwise_iff_getElem]
          intro i j hi hj hij
          have hi' : i < d'.size := by simpa using hi
          have hj' : j < d'.size := by simpa using hj
          have := hS i j (Nat.zero_le _) hij (by omega)
          rw [getElem!_pos d' j hj', getElem!_pos d' i hi', ltP] at this
          simp only [decide_eq_false_iff_not] at this
          show leP (valP d'[i]) (valP d'[j]) = true
          generalize d'[i] = x at *
          generalize d'[j] = y at *
          unfold leP
          rw [decide_eq_true_eq]
          simp only [valP]
          omega
      have hlen : (srtP ps).length = ps.length := srtP_len ps
      have a := Ev.putP H (ps := ps) (ts := srtP ps) (d := d'.toList) hts hn hm hlen n
      have b := Ev.growF a.rel os.toList
      exact ⟨_, C, _, .tup [], rfl, a.trans b, .tup #[] rfl (fun j hj => absurd hj (by simp)), hq⟩
theorem sortF_nil {h : Heap} {Q : AV → Heap → Prop} (hq : Q (.tup []) h) : ACalls Tryz.prog 120 [.e0, .fn 121 []] h Q := by
  refine ⟨⟨Tryz.f120, _, Tryz.func120, rfl, by decide +kernel⟩, fun w C vs H hvs hr => ?_⟩
  obtain ⟨v, u, rfl⟩ : ∃ v u, vs = #[v, u] := by
    have : vs.size = 2 := hvs
    exact ⟨vs[0], vs[1], by
      apply Array.ext (by simp [this])
      intro i h1 h2
      match i, h2 with
      | 0, _ => rfl
      | 1, _ => rfl⟩
  have hr0 : Rep w C .e0 v := hr 0 (by simp)
  cases hr0 with
  | e0 =>
    rename_i a
    refine Calls.mono (AnyF.slices_SortFunc_none Tryz.laysF a 0 u w) ?_
    rintro e w' ⟨rfl, rfl⟩
    exact ⟨_, C, h, .tup [], rfl, Ev.refl H, .tup #[] rfl (fun j hj => absurd hj (by simp)), hq⟩
end Am
