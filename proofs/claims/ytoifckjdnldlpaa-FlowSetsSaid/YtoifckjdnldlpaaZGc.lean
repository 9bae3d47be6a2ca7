/- The reference: known, its tables. -/
import Derived.Test.YtoifckjdnldlpaaZGb
set_option linter.unusedVariables false
set_option linter.unusedSimpArgs false
namespace Am
open Go Go.Proofs.Try
def kPa (s : Sch) (a b c : AV) : List AV := [.rs 2 (syCs s.syms), .rs 5 (fnCs s.funs), a, b, c]
def oN (i f : Nat) : AV := if f = 0 then .e0 else .os i f
def con5 (s : Sch) (f : Nat) (l : Lo) : Con
  | .pa => some (.arr 5 [kPa s (oN (l .nb) f) (oN (l .mh) f) (oN (l .cb) f)])
  | .nb => if f = 0 then none else some (.arr 1 ((NR s).take f))
  | .mh => if f = 0 then none else some (.arr 1 ((HR s l).take f))
  | .cb => if f = 0 then none else some (.arr 1 ((CR s l).take f))
  | .cs f' => if f' < f then some (.arr 1 (List.replicate (nN s f') [.e0])) else none
  | .tmp f' => if f' < f then some (.arr 1 (List.replicate (ar s f') [.rs 2 []])) else none
  | _ => none
theorem NR_take {s : Sch} {f : Nat} (hf : f < s.funs.length) : (NR s).take (f + 1) = (NR s).take f ++ [[.rs 3 (tmCs (preT_ (s.funs.getD f default).body))]] := by
  rw [List.take_succ_eq_append_getElem (by rw [NR_len]; exact hf)]
  have := NR_get hf
  rw [List.getD_eq_getElem?_getD, List.getElem?_eq_getElem (by rw [NR_len]; exact hf)] at this
  simp only [Option.getD_some] at this
  rw [this]
theorem HR_take1 {s : Sch} (l : Lo) {f : Nat} (hf : f < s.funs.length) : (HR s l).take (f + 1) = (HR s l).take f ++ [[.os (l (.cs f)) (nN s f)]] := by
  rw [List.take_succ_eq_append_getElem (by rw [HR_len]; exact hf)]
  have := HR_get (l := l) hf
  rw [List.getD_eq_getElem?_getD, List.getElem?_eq_getElem (by rw [HR_len]; exact hf)] at this
  simp only [Option.getD_some] at this
  rw [this]
theorem CR_take1 {s : Sch} (l : Lo) {f : Nat} (hf : f < s.funs.length) : (CR s l).take (f + 1) = (CR s l).take f ++ [[.os (l (.tmp f)) (ar s f)]] := by
  rw [List.take_succ_eq_append_getElem (by rw [CR_len]; exact hf)]
  have := CR_get (l := l) hf
  rw [List.getD_eq_getElem?_getD, List.getElem?_eq_getElem (by rw [CR_len]; exact hf)] at this
  simp only [Option.getD_some] at this
  rw [this]
theorem mem_take_range {n f i : Nat} (h : i ∈ (List.range n).take f) : i < f := by
  obtain ⟨j, hj, e⟩ := List.mem_take_iff_getElem.1 h
  simp at e; omega
theorem HR_take {s : Sch} {l l' : Lo} {f : Nat} (h : ∀ f', f' < f → l' (.cs f') = l (.cs f')) : (HR s l').take f = (HR s l).take f := by
  simp only [HR, ← List.map_take]
  exact List.map_congr_left fun f' hf => by rw [h f' (mem_take_range hf)]
theorem CR_take {s : Sch} {l l' : Lo} {f : Nat} (h : ∀ f', f' < f → l' (.tmp f') = l (.tmp f')) : (CR s l').take f = (CR s l).take f := by
  simp only [CR, ← List.map_take]
  exact List.map_congr_left fun f' hf => by rw [h f' (mem_take_range hf)]
section
variable {hb h : Heap} {s : Sch} {l : Lo}
theorem round5 (H : SOk s) {f P : Nat} (R : RC hb (con5 s f l) l h) (hP : l .pa = P) (hf : f < s.funs.length) {K : List AV → Heap → Prop}
    (hK : ∀ l' h' h'', l' .pa = P → HRef h' h'' → RC hb (con5 s (f + 1) l') l' h'' → K [I ((f + 1 : Nat) : Int)] h') :
    (idxA 5 (.rs 5 (fnCs s.funs)) (I (f : Nat)) h fun p_9 =>
     loadG 5 p_9 h fun c_10 =>
     callS prog n_vref19_Nodes [(.agg [(g c_10 2), (g c_10 3), (g c_10 4)]), .e0] h fun r_11 h_12 =>
     nilA (.op P 0 0) <|
     fldA 2 (.op P 0 0) fun p_13 =>
     loadV p_13 h_12 fun x_14 =>
     oneA r_11 <|
     appA 1 24 x_14 (.rs 1 [[r_11]]) h_12 fun x_15 h_16 =>
     nilA (.op P 0 0) <|
     fldA 2 (.op P 0 0) fun p_17 =>
     oneA x_15 <|
     storeG p_17 [x_15] h_16 fun h_18 =>
     nilA (.op P 0 0) <|
     fldA 3 (.op P 0 0) fun p_19 =>
     loadV p_19 h_18 fun x_20 =>
     lenA r_11 fun x_21 =>
     mkA 1 24 [.e0] x_21 x_21 h_18 fun x_22 h_23 =>
    (loadV p_19 h_23 fun x_39 =>
     TV.av x_39 = TV.av x_20) ∧
    (oneA x_22 <|
     appA 1 24 x_20 (.rs 1 [[x_22]]) h_23 fun x_24 h_25 =>
     nilA (.op P 0 0) <|
     fldA 3 (.op P 0 0) fun p_26 =>
     oneA x_24 <|
     storeG p_26 [x_24] h_25 fun h_27 =>
     nilA (.op P 0 0) <|
     fldA 4 (.op P 0 0) fun p_28 =>
     loadV p_28 h_27 fun x_29 =>
     lenA (g c_10 1) fun x_30 =>
     mkA 1 24 [.e0] x_30 x_30 h_27 fun x_31 h_32 =>
    (loadV p_28 h_32 fun x_38 =>
     TV.av x_38 = TV.av x_29) ∧
    (oneA x_31 <|
     appA 1 24 x_29 (.rs 1 [[x_31]]) h_32 fun x_33 h_34 =>
     nilA (.op P 0 0) <|
     fldA 4 (.op P 0 0) fun p_35 =>
     oneA x_33 <|
     storeG p_35 [x_33] h_34 fun h_36 =>
     binA .add (I (f : Nat)) (I 1) fun x_37 =>
     K [x_37] h_36))) := by
  have hfe : s.funs.getD f default = s.funs[f] := by simp [List.getD_eq_getElem?_getD, hf]
  have hfew := H.few
  have hn4 := nN_le H hf
  have ha8 := ar_le H hf
  refine ix_rs (by rw [fnCs_len]; exact hf) (fn_get hf) ?_
  rw [w_loadG_ro]
  refine ⟨by simp [fnC], ?_⟩
  simp only [fnC, List.drop_zero, g_0, g_1, g_2, g_3, g_4, tm_eta, srC_eq]
  refine callS_of (vref19_Nodes_f _ (by have h1 : (s.funs.getD f default).body.nodes ≤ 400 := hn4; omega) ?_)
  have xa : h P = some (.arr 5 [kPa s (oN (l .nb) f) (oN (l .mh) f) (oN (l .cb) f)]) := by rw [← hP]; exact R.own .pa _ rfl
  refine rdK (x := oN (l .nb) f) xa (by omega) rfl ?_
  rw [w_one_rs]
  have lN : ((NR s).take f).length = f := by rw [List.length_take, NR_len]; omega
  have lH : ((HR s l).take f).length = f := by rw [List.length_take, HR_len]; omega
  have lC : ((CR s l).take f).length = f := by rw [List.length_take, CR_len]; omega
  have hle : (tmCs (preT_ (s.funs.getD f default).body)).length = nN s f := by rw [tmCs_len, pre_len]; rfl
  refine grow5 R (a := .nb) (f := f) (els := (NR s).take f) hP (by simp) rfl rfl lN (fun e => by simp only [con5, if_neg e]) (by omega) (by omega) fun i1 h1 R1 => ?_
  rw [← NR_take hf] at R1
  have ep1 : (kPa s (oN (l .nb) f) (oN (l .mh) f) (oN (l .cb) f)).set 2 (.os i1 (f + 1)) = kPa s (.os i1 (f + 1)) (oN (l .mh) f) (oN (l .cb) f) := rfl
  rw [ep1] at R1
  have xa1 : h1 P = some (.arr 5 [kPa s (.os i1 (f + 1)) (oN (l .mh) f) (oN (l .cb) f)]) := by
    have := R1.own .pa _ (Con.set_same _ _ _)
    rwa [Lo.set_ne (by simp), hP] at this
  refine rdK (x := oN (l .mh) f) xa1 (by omega) rfl ?_
  rw [w_len_rs, hle]
  refine ⟨rfl, by omega, by omega, fun i2 hi2 => ?_⟩
  rw [Int.toNat_natCast]
  have R2 := R1.mk' (.cs f) (.arr 1 (List.replicate (nN s f) [.e0])) hi2
  have xa2 : (h1.set i2 (.arr 1 (List.replicate (nN s f) [.e0]))) P = some (.arr 5 [kPa s (.os i1 (f + 1)) (oN (l .mh) f) (oN (l .cb) f)]) := by
    rw [Heap.set_ne]; exact xa1
    rintro e; rw [e, hi2] at xa1; cases xa1
  refine ⟨ld xa2 (by omega) rfl rfl, ?_⟩
  rw [w_one_os]
  refine grow5 R2 (a := .mh) (f := f) (els := (HR s l).take f) (P := P) (by rw [Lo.set_ne (by simp), Lo.set_ne (by simp), hP]) (by simp) (by rw [Con.set_ne (by simp), Con.set_same]) (by rw [Lo.set_ne (by simp), Lo.set_ne (by simp)]; rfl) lH (fun e => by rw [Con.set_ne (by simp), Con.set_ne (by simp), Con.set_ne (by simp)]; simp only [con5, if_neg e]) (by omega) (by omega) fun i3 h3 R3 => ?_
  have ep3 : (kPa s (.os i1 (f + 1)) (oN (l .mh) f) (oN (l .cb) f)).set 3 (.os i3 (f + 1)) = kPa s (.os i1 (f + 1)) (.os i3 (f + 1)) (oN (l .cb) f) := rfl
  rw [ep3] at R3
  have xa3 : h3 P = some (.arr 5 [kPa s (.os i1 (f + 1)) (.os i3 (f + 1)) (oN (l .cb) f)]) := by
    have := R3.own .pa _ (Con.set_same _ _ _)
    rwa [Lo.set_ne (by simp), Lo.set_ne (by simp), Lo.set_ne (by simp), hP] at this
  refine rdK (x := oN (l .cb) f) xa3 (by omega) rfl ?_
  have earr : (srCs (Rt.kids (s.funs.getD f default).sort)).length = ar s f := by rw [srCs_len]; rfl
  rw [w_len_rs, earr]
  refine ⟨rfl, by omega, by omega, fun i4 hi4 => ?_⟩
  rw [Int.toNat_natCast]
  have R4 := R3.mk' (.tmp f) (.arr 1 (List.replicate (ar s f) [.e0])) hi4
  have xa4 : (h3.set i4 (.arr 1 (List.replicate (ar s f) [.e0]))) P = some (.arr 5 [kPa s (.os i1 (f + 1)) (.os i3 (f + 1)) (oN (l .cb) f)]) := by
    rw [Heap.set_ne]; exact xa3
    rintro e; rw [e, hi4] at xa3; cases xa3
  refine ⟨ld xa4 (by omega) rfl rfl, ?_⟩
  rw [w_one_os]
  refine grow5 R4 (a := .cb) (f := f) (els := (CR s l).take f) (P := P) (by rw [Lo.set_ne (by simp), Lo.set_ne (by simp), Lo.set_ne (by simp), Lo.set_ne (by simp), hP]) (by simp) (by rw [Con.set_ne (by simp), Con.set_same]) (by rw [Lo.set_ne (by simp), Lo.set_ne (by simp), Lo.set_ne (by simp), Lo.set_ne (by simp)]; rfl) lC (fun e => by rw [Con.set_ne (by simp), Con.set_ne (by simp), Con.set_ne (by simp), Con.set_ne (by simp), Con.set_ne (by simp), Con.set_ne (by simp)]; simp only [con5, if_neg e]) (by omega) (by omega) fun i5 h5 R5 => ?_
  have ep5 : (kPa s (.os i1 (f + 1)) (.os i3 (f + 1)) (oN (l .cb) f)).set 4 (.os i5 (f + 1)) = kPa s (.os i1 (f + 1)) (.os i3 (f + 1)) (.os i5 (f + 1)) := rfl
  rw [ep5] at R5
  rw [w_add, wrap_k (k := f) (by omega)]
  obtain ⟨l5, hl5⟩ : ∃ l5, l5 = ((((l.set .nb i1).set (.cs f) i2).set .mh i3).set (.tmp f) i4).set .cb i5 := ⟨_, rfl⟩
  rw [← hl5] at R5
  have ln : ∀ a, a ≠ .nb → a ≠ .cs f → a ≠ .mh → a ≠ .tmp f → a ≠ .cb → l5 a = l a := fun a q1 q2 q3 q4 q5 => by
    rw [hl5, Lo.set_ne q5, Lo.set_ne q4, Lo.set_ne q3, Lo.set_ne q2, Lo.set_ne q1]
  have l1 : l5 .nb = i1 := by rw [hl5, Lo.set_ne (by simp), Lo.set_ne (by simp), Lo.set_ne (by simp), Lo.set_ne (by simp), Lo.set_same]
  have l2 : l5 (.cs f) = i2 := by rw [hl5, Lo.set_ne (by simp), Lo.set_ne (by simp), Lo.set_ne (by simp), Lo.set_same]
  have l3 : l5 .mh = i3 := by rw [hl5, Lo.set_ne (by simp), Lo.set_ne (by simp), Lo.set_same]
  have l4 : l5 (.tmp f) = i4 := by rw [hl5, Lo.set_ne (by simp), Lo.set_same]
  have l5' : l5 .cb = i5 := by rw [hl5, Lo.set_same]
  obtain ⟨r6, R6⟩ := R5.ref1 (a := .tmp f) (sz := 1) (els := List.replicate (ar s f) [.e0]) (els' := List.replicate (ar s f) [.rs 2 []]) (by rw [Con.set_ne (by simp), Con.set_ne (by simp), Con.set_same]) (by simp) (fun i hi => by
    have : i < ar s f := by simpa using hi
    simp [List.getD_eq_getElem?_getD, this]) fun z i j hi hj => by
    have h1 : i < ar s f := by simpa using hi
    have h2 : j = 0 := by omega
    subst h2
    have e1 : g ((List.replicate (ar s f) [AV.e0]).getD i []) 0 = .e0 := by simp [List.getD_eq_getElem?_getD, h1]
    have e2 : g ((List.replicate (ar s f) [AV.rs 2 []]).getD i []) 0 = .rs 2 [] := by simp [List.getD_eq_getElem?_getD, h1]
    rw [e1, e2]; exact .e0
  refine hK l5 _ _ (by rw [ln _ (by simp) (by simp) (by simp) (by simp) (by simp), hP]) r6 (R6.weak fun a n ha => ?_)
  have hH : (HR s l5).take (f + 1) = (HR s l).take f ++ [[.os i2 (nN s f)]] := by
    rw [HR_take1 l5 hf, l2, HR_take fun f' hf' => ln _ (by simp) (by simp; omega) (by simp) (by simp) (by simp)]
  have hC : (CR s l5).take (f + 1) = (CR s l).take f ++ [[.os i4 (ar s f)]] := by
    rw [CR_take1 l5 hf, l4, CR_take fun f' hf' => ln _ (by simp) (by simp) (by simp) (by simp; omega) (by simp)]
  have hf1 : ¬ f + 1 = 0 := by omega
  cases a with
  | pa =>
    simp only [con5, oN, hf1, if_false, l1, l3, l5'] at ha
    simpa [Con.set] using ha
  | nb => simpa [con5, Con.set] using ha
  | mh =>
    simp only [con5, hf1, if_false, hH] at ha
    simpa [Con.set] using ha
  | cb =>
    simp only [con5, hf1, if_false, hC] at ha
    simpa [Con.set] using ha
  | cs f' =>
    by_cases e : f' = f
    · subst e
      simpa [con5, Con.set] using ha
    · have : f' < f + 1 ↔ f' < f := by omega
      simp only [con5, this] at ha
      simpa [Con.set, con5, e] using ha
  | tmp f' =>
    by_cases e : f' = f
    · subst e
      simpa [con5, Con.set] using ha
    · have : f' < f + 1 ↔ f' < f := by omega
      simp only [con5, this] at ha
      simpa [Con.set, con5, e] using ha
  | _ => simp [con5] at ha
end
end Am
