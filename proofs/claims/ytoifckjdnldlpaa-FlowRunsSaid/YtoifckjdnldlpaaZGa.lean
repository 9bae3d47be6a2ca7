/- The reference: pass; the state at the fixed point. -/
import Derived.Test.YtoifckjdnldlpaaZFv
set_option linter.unusedVariables false
set_option linter.unusedSimpArgs false
namespace Am
open Go Go.Proofs.Try
section
variable {s : Sch} {R : Nat → Prop} {σ : KS} {hb h : Heap} {l : Lo}
structure Pass (s : Sch) (R : Nat → Prop) (σ : KS) (q : Pc) (σ' : KS) : Prop where
  inv : KInv s R σ'
  hd : σ'.hd = σ.hd
  ext : ∀ k p, p ∈ σ.cm k → p ∈ σ'.cm k
  arg : ∀ h, h ∈ σ.hd q → ∀ j, j < nA s q → h.2 + j < ar s h.1 → argAt s q j ∈ σ'.cm (h.1, h.2 + j)
end
end Am
set_option linter.unusedVariables false
set_option linter.unusedSimpArgs false
namespace Am
open Go Go.Proofs.Try
structure GrowK (σ σ' : KS) : Prop where
  hd : ∀ p h, h ∈ σ.hd p → h ∈ σ'.hd p
  cm : ∀ k p, p ∈ σ.cm k → p ∈ σ'.cm k
theorem GrowK.refl (σ : KS) : GrowK σ σ := ⟨fun _ _ h => h, fun _ _ h => h⟩
theorem GrowK.trans {a b c : KS} (h1 : GrowK a b) (h2 : GrowK b c) : GrowK a c := ⟨fun p h hh => h2.hd p h (h1.hd p h hh), fun k p hp => h2.cm k p (h1.cm k p hp)⟩
structure Proc (s : Sch) (R : Nat → Prop) (σ0 σ : KS) (q : Pc) : Prop where
  fn : ∀ g : Nat, labP s q = (1, (g : Int)) → (g, 0) ∈ σ.hd q
  var : ∀ i : Nat, labP s q = (0, (i : Int)) → ∀ p, p ∈ σ0.cm (q.1, i) → ∀ h, h ∈ σ0.hd p → (h.1, h.2 + nA s p) ∈ σ.hd q
  arg : R q.1 → ∀ h, h ∈ σ0.hd q → ∀ j, j < nA s q → h.2 + j < ar s h.1 → argAt s q j ∈ σ.cm (h.1, h.2 + j)
theorem Proc.mono {s : Sch} {R : Nat → Prop} {σ0 σ σ' : KS} {q : Pc} (h : Proc s R σ0 σ q) (g : GrowK σ σ') : Proc s R σ0 σ' q :=
  ⟨fun i hi => g.hd _ _ (h.fn i hi), fun i hi p hp hh hhh => g.hd _ _ (h.var i hi p hp hh hhh), fun hr hh hhh j hj hc => g.cm _ _ (h.arg hr hh hhh j hj hc)⟩
section
variable {s : Sch} {R : Nat → Prop} {σ σ0 : KS} {hb h : Heap} {l : Lo} {c : Con}
end
end Am
set_option linter.unusedVariables false
set_option linter.unusedSimpArgs false
namespace Am
open Go Go.Proofs.Try
section
variable {hb h : Heap} {s : Sch} {l : Lo}
end
end Am
set_option linter.unusedVariables false
set_option linter.unusedSimpArgs false
namespace Am
open Go Go.Proofs.Try
section
variable {hb h : Heap} {s : Sch} {l : Lo} {bl : List Bool}
theorem Look.grow {R : Nat → Prop} {σ σ' : KS} {q : Pc} (L : Look s R σ q σ') : GrowK σ σ' :=
  ⟨fun p h hh => by
    by_cases e : p = q
    · subst e; exact L.ext h hh
    · rw [L.oth p e]; exact hh, fun k p hp => by rw [L.cm]; exact hp⟩
theorem Pass.grow {R : Nat → Prop} {σ σ' : KS} {q : Pc} (L : Pass s R σ q σ') : GrowK σ σ' :=
  ⟨fun p h hh => by rw [L.hd]; exact hh, L.ext⟩
theorem Proc.of {R : Nat → Prop} {σ0 σ1 σ2 σ3 : KS} {q : Pc} (g : GrowK σ0 σ1) (L : Look s R σ1 q σ2) (g2 : GrowK σ2 σ3) (A : R q.1 → Pass s R σ2 q σ3) : Proc s R σ0 σ3 q :=
  ⟨fun f hf => g2.hd _ _ (L.fn f hf), fun i hi p hp hh hhh => g2.hd _ _ (L.var i hi p (g.cm _ _ hp) hh (g.hd _ _ hhh)), fun hr hh hhh j hj hc => (A hr).arg hh (L.ext hh (g.hd _ _ hhh)) j hj hc⟩
end
end Am
