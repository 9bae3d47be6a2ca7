/- Weakenings compose. -/
import Derived.Test.YtoifckjdnldlpaaGreatZFr
set_option linter.unusedVariables false
set_option linter.unusedSimpArgs false
namespace Am
open Go
section
variable {h h' h'' : Heap}
theorem HRef.none (hh : HRef h h') {id : Nat} (hn : h id = none) : h' id = none := by
  cases e : h' id with
  | none => rfl
  | some n => obtain ⟨m, hm, _⟩ := hh id n e; rw [hn] at hm; cases hm
theorem Ref.on {x y : AV} (hr : Ref h h' x y) (hh : HRef h' h'') : Ref h h'' x y := by
  induction hr with
  | refl => exact .refl
  | any => exact .any
  | e0 => exact .e0
  | rs hl hz _ ih => exact .rs hl hz ih
  | agg hl _ ih => exact .agg hl ih
  | tup hl _ ih => exact .tup hl ih
  | fn hl _ ih => exact .fn hl ih
  | frz hi hn hle hl hz _ ih => exact .frz hi (hh.none hn) hle hl hz ih
  | fro hi hn hx hl _ ih => exact .fro hi (hh.none hn) hx hl ih
theorem Ref.trans (h1 : HRef h h') (h2 : HRef h' h'') {y z : AV} (hr : Ref h' h'' y z) : ∀ {x}, Ref h h' x y → Ref h h'' x z := by
  induction hr with
  | refl => exact fun hx => hx.on h2
  | any => exact fun _ => .any
  | e0 =>
    intro x hx
    cases hx
    exact .e0
  | @rs sz els els' hl hz _ ih =>
    intro x hx
    cases hx with
    | refl => exact .rs hl hz fun i j hi hj => ih i j hi hj .refl
    | e0 =>
      have : els' = [] := List.eq_nil_of_length_eq_zero (by simpa using hl)
      subst this; exact .e0
    | @rs _ els0 _ hl0 hz0 hr0 => exact .rs (hl.trans hl0) (fun i hi => hz i (by omega)) fun i j hi hj => ih i j (by omega) hj (hr0 i j hi hj)
    | @frz id _ els0 len _ hh hn hle hl0 hz0 hr0 => exact .frz hh (h2.none hn) hle (hl.trans hl0) (fun i hi => hz i (by omega)) fun i j hi hj => ih i j (by omega) hj (hr0 i j hi hj)
  | @agg cs cs' hl _ ih =>
    intro x hx
    cases hx with
    | refl => exact .agg hl fun j hj => ih j hj .refl
    | @agg cs0 _ hl0 hr0 => exact .agg (hl.trans hl0) fun j hj => ih j (by omega) (hr0 j hj)
  | @tup cs cs' hl _ ih =>
    intro x hx
    cases hx with
    | refl => exact .tup hl fun j hj => ih j hj .refl
    | @tup cs0 _ hl0 hr0 => exact .tup (hl.trans hl0) fun j hj => ih j (by omega) (hr0 j hj)
  | @fn f cs cs' hl _ ih =>
    intro x hx
    cases hx with
    | refl => exact .fn hl fun j hj => ih j hj .refl
    | @fn _ cs0 _ hl0 hr0 => exact .fn (hl.trans hl0) fun j hj => ih j (by omega) (hr0 j hj)
  | @frz id sz els len els' hh hn hle hl hz _ ih =>
    intro x hx
    cases hx
    obtain ⟨n, hn1, hn2⟩ := h1 id _ hh
    cases hn2 with
    | refl => exact .frz hn1 hn hle hl hz fun i j hi hj => ih i j hi hj .refl
    | @arr _ els0 _ hl0 hz0 hr0 => exact .frz hn1 hn (by omega) hl hz fun i j hi hj => ih i j hi hj (hr0 i j (by omega) hj)
  | @fro id sz els ix off cs hh hn hi hl _ ih =>
    intro x hx
    cases hx
    obtain ⟨n, hn1, hn2⟩ := h1 id _ hh
    cases hn2 with
    | refl => exact .fro hn1 hn hi hl fun j hj => ih j hj .refl
    | @arr _ els0 _ hl0 hz0 hr0 => exact .fro hn1 hn (by omega) hl fun j hj => ih j hj (hr0 ix (off + j) (by omega) (by omega))
theorem HRef.trans (h1 : HRef h h') (h2 : HRef h' h'') : HRef h h'' := fun id n'' hi => by
  obtain ⟨n', a1, a2⟩ := h2 id n'' hi
  obtain ⟨n, b1, b2⟩ := h1 id n' a1
  refine ⟨n, b1, ?_⟩
  cases a2 with
  | refl =>
    cases b2 with
    | refl => exact .refl
    | arr hl hz hr => exact .arr hl hz fun i j hi hj => (hr i j hi hj).on h2
  | @arr sz els els' hl hz hr =>
    cases b2 with
    | refl => exact .arr hl hz fun i j hi hj => Ref.trans h1 h2 (hr i j hi hj) .refl
    | @arr _ els0 _ hl0 hz0 hr0 => exact .arr (hl.trans hl0) (fun i hi => hz i (by omega)) fun i j hi hj => Ref.trans h1 h2 (hr i j (by omega) hj) (hr0 i j hi hj)
end
end Am
