/- A scheme, read with the size of its functions. -/
import Derived.Test.YtoifckjdnldlpaaZM5
import Derived.SizedLaws
set_option linter.unusedVariables false
set_option linter.unusedSimpArgs false
namespace Am
open Go Go.RowKit Go.WideShapes Go.ChangeShapes Go.Proofs
section
variable {H : Type} {enc : TypeId × Value → H} {W : World} {sp : Nat → Bool}
theorem bytes70 : Try.prog.bytesOf 70 = 80 := by kernel_rfl
set_option maxRecDepth 20000 in
theorem rd_scheme' (n : Nat) : ∀ cs x, DataW.trod enc Try.prog W 0 sp true n 56 cs = some x → ∃ s : Sch, CL W [.rs 2 (syCs s.syms), .rs 5 (fnCs s.funs)] cs ∧ (s.funs = [] ∨ ∃ m, m ∈ DataW.weights Try.prog 56 x.1 ∧ s.funs.length * 80 ≤ m) := by
  intro cs x h
  obtain ⟨xs, m, rfl, rfl, hl, hlen, hf⟩ := DataW.trod_struct Try.underlying56 h
  have hlen' : xs.length = 2 := hlen
  match xs, hlen' with
  | [x0, x1], _ =>
    have h0 := hf 0 _ rfl
    have h1 := hf 1 _ rfl
    have h0 : DataW.trod enc Try.prog W 0 sp true m 22 ((cs.drop 0).take (Try.prog.cellsOf 22)) = some x0 := h0
    have h1 : DataW.trod enc Try.prog W 0 sp true m 54 ((cs.drop 1).take (Try.prog.cellsOf 54)) = some x1 := h1
    rw [cells22] at h0
    rw [cells54] at h1
    obtain ⟨a, ha⟩ := rd_syms m _ _ h0
    obtain ⟨b, hb, hsz⟩ := rds_slice' Try.underlying54 cells70 (en := fnC) (fun _ => rfl) (by omega) (fun k _ => rd_fun k) h1
    refine ⟨⟨a, b⟩, ?_, ?_⟩
    · have hcs : cs.length = 2 := by rw [hl, cells56]
      have e : cs = (cs.drop 0).take 1 ++ (cs.drop 1).take 1 := by
        match cs, hcs with
        | [u, v], _ => rfl
      rw [e]
      exact ha.append hb
    · rcases hsz with ⟨rfl, _⟩ | ⟨es, spare, e, hes⟩
      · exact .inl rfl
      · refine .inr ⟨(es.length + spare.length) * 80, ?_, ?_⟩
        · simp only [List.map_cons, List.map_nil, DataW.weights, Try.underlying56]
          show _ ∈ DataW.weights Try.prog 22 x0.1 ++ (DataW.weights Try.prog 54 x1.1 ++ [])
          rw [e]
          simp [DataW.weights, Try.underlying54, bytes70]
        · show b.length * 80 ≤ _
          rw [← hes]; omega
set_option maxRecDepth 20000 in
theorem arg_scheme {b0 : Nat} {v : Value} {d : DataW H} {p : List MemPlace} (hval : Value.okWide Try.prog W .any b0 56 v) (h : DataW.Trod enc Try.prog W 0 sp true 56 v d p) {ts : List TypeId} {ds : List (DataW H)} {j : Nat}
    (hw : (DataW.weightsEach Try.prog ts ds).all (· ≤ reachBytes) = true) (hj : ts[j]? = some 56) (hd : ds[j]? = some d) : ∃ s : Sch, Rep W (C0 W) (sm s) v ∧ s.funs.length * 80 ≤ 140737488351232 := by
  obtain ⟨cs, rfl, _⟩ := okWide_struct Try.underlying56 hval
  obtain ⟨n, h⟩ := h
  obtain ⟨a, ⟨h1, h2⟩, h3⟩ := rd_scheme' n _ _ h
  have h1 : (2 : Nat) = cs.size := by simpa [Value.cells] using h1
  refine ⟨a, .agg cs h1.symm (fun j hj => ?_) (fun j hj => ?_), ?_⟩
  · have := (h2 j hj).1; simpa [Value.cells, Array.getD_eq_getD_getElem?, List.getD_eq_getElem?_getD] using this
  · have := (h2 j hj).2; simpa [g, Value.cells, Array.getD_eq_getD_getElem?, List.getD_eq_getElem?_getD] using this
  · rcases h3 with h3 | ⟨m, hm, h4⟩
    · rw [h3]; simp
    · have := List.all_eq_true.1 hw _ (DataW.weights_mem_each hj hd m hm)
      have h5 : m ≤ reachBytes := by simpa using this
      have h6 : reachBytes = 140737488351232 := rfl
      omega
end
end Am
