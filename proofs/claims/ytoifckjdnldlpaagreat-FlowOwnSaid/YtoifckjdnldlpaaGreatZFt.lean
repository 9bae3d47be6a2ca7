/- FlowSorts answers true. -/
import Derived.Test.YtoifckjdnldlpaaGreatZFr
import Derived.Test.YtoifckjdnldlpaaGreatZFV
set_option linter.unusedVariables false
set_option linter.unusedSimpArgs false
namespace Am
open Go Go.Proofs.Tryz
theorem atS_ok {s : Sch} {p : Pc} (hp : okP s p) : atS s (p.1 : Nat) (p.2 : Nat) = some (ndS s p).1 := by
  unfold atS
  rw [if_pos ⟨by omega, by have := hp.1; omega, by omega, by have := hp.2; rw [Int.toNat_natCast]; omega⟩]
  simp
theorem rd_flow {s : Sch} (F : Pc → List Pc) {f : Nat} (hf : f < s.funs.length) {h : Heap} {K : AV → Prop} (hk : K (.rs 1 ((List.range (ar s f)).map fun i => [.rs 2 ((F (f, i)).map plC)]))) :
    idxA 1 (flowC s F) (I (f : Nat)) h fun p => loadV p h K := by
  unfold flowC
  refine ix_rs (by simpa using hf) (flowC_get F hf) ?_
  rw [w_loadV_ro]; exact hk
theorem rd_row {n f : Nat} (F : Pc → List Pc) {i : Nat} (hi : i < n) {h : Heap} {K : AV → Prop} (hk : K (.rs 2 ((F (f, i)).map plC))) :
    idxA 1 (.rs 1 ((List.range n).map fun i => [AV.rs 2 ((F (f, i)).map plC)])) (I (i : Nat)) h fun p => loadV p h K := by
  refine ix_rs (by simpa using hi) (row_get (fun i => F (f, i)) hi) ?_
  rw [w_loadV_ro]; exact hk
theorem IsFlow.len {s : Sch} (H : SOk s) (Sm : Small s) {bl : List Bool} {F : Pc → List Pc} (hF : IsFlow s bl F) (k : Pc) : (F k).length ≤ 150 := by
  obtain ⟨l, hn, e⟩ := hF.ord k
  rw [e, srtP_len]
  refine Nat.le_trans (List.Nodup.length_le_of_subset hn fun p hp => mem_allPl.2 ?_) Sm
  have : FlP s (Rb bl) true k p := by rw [← hF.mem, e, srtP_mem]; exact hp
  exact ((this.typed H).2 rfl).2.1
end Am
