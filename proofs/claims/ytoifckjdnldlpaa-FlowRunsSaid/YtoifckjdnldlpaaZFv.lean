/- The reference's lists: a head is added, a place is added; how much is known. -/
import Derived.Test.YtoifckjdnldlpaaZFu
import Derived.Test.YtoifckjdnldlpaaZFV
set_option linter.unusedVariables false
set_option linter.unusedSimpArgs false
namespace Am
open Go Go.Proofs.Try
def Srtd (l : List Pc) : Prop := l.Pairwise (fun a b => leP a b = true) ∧ l.Nodup
theorem Srtd.srt {l : List Pc} (h : l.Nodup) : Srtd (srtP l) := ⟨srtP_pw l, (srtP_isPerm l).symm.nodup h⟩
theorem Srtd.eq {l : List Pc} (h : Srtd l) : srtP l = l := (srtP_uniq (List.Perm.refl l) h.1).symm
theorem Srtd.ins {l : List Pc} (h : Srtd l) (p : Pc) : Srtd (srtP (insK l p)) := Srtd.srt (insK_nodup h.2)
end Am
set_option linter.unusedVariables false
set_option linter.unusedSimpArgs false
namespace Am
open Go Go.Proofs.Try
structure KS where
  hd : Pc → List Pc
  cm : Pc → List Pc
def hV (σ : KS) (l : Lo) (p : Pc) : AV := if σ.hd p = [] then .e0 else .os (l (.hm p)) (σ.hd p).length
structure KInv (s : Sch) (R : Nat → Prop) (σ : KS) : Prop where
  sh : ∀ p h, h ∈ σ.hd p → FlP s R false p h
  sc : ∀ k p, p ∈ σ.cm k → FlP s R true k p
  hn : ∀ p, (σ.hd p).Nodup
  cs : ∀ k, Srtd (σ.cm k)
section
variable {s : Sch} {R : Nat → Prop} {σ : KS} {hb h : Heap} {l : Lo}
theorem rd_srt' {f : Nat} (hf : f < s.funs.length) {K : AV → Prop} (hk : K (.rs 1 (srCs (srtOf s f).kids))) :
    idxA 5 (.rs 5 (fnCs s.funs)) (I (f : Nat)) h fun p => fldA 1 p fun q => fldA 0 q fun r => loadV r h K := by
  refine ix_rs (by rw [fnCs_len]; exact hf) (fn_get hf) ?_
  rw [fnC, w_fld_ro, List.drop_succ_cons, List.drop_zero, w_fld_ro, List.drop_zero, w_loadV_ro, srC_eq]
  exact hk
end
end Am
set_option linter.unusedVariables false
set_option linter.unusedSimpArgs false
namespace Am
open Go Go.Proofs.Try
section
variable {s : Sch} {R : Nat → Prop} {σ : KS} {hb h : Heap} {l : Lo}
structure Look (s : Sch) (R : Nat → Prop) (σ : KS) (q : Pc) (σ' : KS) : Prop where
  inv : KInv s R σ'
  cm : σ'.cm = σ.cm
  oth : ∀ p, p ≠ q → σ'.hd p = σ.hd p
  ext : ∀ h, h ∈ σ.hd q → h ∈ σ'.hd q
  fn : ∀ g : Nat, labP s q = (1, (g : Int)) → (g, 0) ∈ σ'.hd q
  var : ∀ i : Nat, labP s q = (0, (i : Int)) → ∀ p, p ∈ σ.cm (q.1, i) → ∀ h, h ∈ σ.hd p → (h.1, h.2 + nA s p) ∈ σ'.hd q
end
end Am
