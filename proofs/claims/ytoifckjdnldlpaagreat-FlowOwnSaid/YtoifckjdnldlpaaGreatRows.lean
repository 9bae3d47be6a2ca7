/-
  NARROWER THAN 'FOR EVERY INPUT', by the rows' own cells (each row's printed sentence says how): TrimAll: loops · TrimTree: loops · FlowHeads: loops · FlowOwn: loops.
  DERIVED. THE GIVEN ROWS OF THIS SEAT. 4 by the template 'for every input the law returns true; each argument reads behind the call as it read before'; 0 by the template 'total and deterministic' (their statements: YtoifckjdnldlpaaGreatTotals.lean).
  GIVEN WITH THE SEED: the statements are not yours to turn. If you find one false, say at which input.
  Laid BY PROGRAM, IN A SANDBOX (cutbox-rows.mjs): the forced cells as the released guide's own fill.sh prints them over the translation 7a13d810f0e919c6… (all of the seat's roots in one cut). By AI agents, Wed Nov 11 2026. No macro, syntax, notation, axiom, sorry.
-/
import Derived.Test.YtoifckjdnldlpaaGreatChecked
import GoSem.Claim
import GoSem.ClaimJoined
import GoSem.ClaimMapViews
import Derived.JoinedTies
import Derived.KernelRfl
namespace Go.Proofs.YtoifckjdnldlpaaGreat
/- THE CELL 'sum', in the pinned program and in every row, IS THE sha256 OF THE DUMP (.gsa) THAT YtoifckjdnldlpaaGreatProg.lean LOADS. Nothing in Lean hashes anything: it is a label: what it is worth is what the hold of that sum in a sandbox is worth. -/
noncomputable def Tryz.pinned : Pinned := { name := "ytoifckjdnldlpaagreat", sum := "7a13d810f0e919c67127febb5fad6221a53bd19457d0b2b83681ed6f1eed2c57", checked := Tryz.checked }
namespace Rows
def none {H : Type} : Left H := { results := [], args := [] }

/-- 'virgationlaw23.TrimAll': WHATEVER THE INPUT: true; the input reads as it did. -/
def trimAllSpec : ChangeSpec := { name := "trimAll", fn := fun _ => fun
  | [d] => { results := [.lit (.bool true)], args := [d] }
  | _ => none }
def trimAllRow : OpenClaim := { program := "ytoifckjdnldlpaagreat", sum := "7a13d810f0e919c67127febb5fad6221a53bd19457d0b2b83681ed6f1eed2c57", func := "virgation/virgationlaw23.TrimAll", spec := "trimAll", unfollowed := true, recurses := true, loops := true, plainKeys := false, apart := false }
def TrimAllSaid : Prop := trimAllRow.holds Tryz.pinned (OpenSpec.ofChange trimAllSpec)

/-- ITS FALSE NEIGHBOUR: 'it returns false'. Refute it at one input. -/
def trimAllWrong : ChangeSpec := { name := "trimAll", fn := fun _ => fun
  | [d] => { results := [.lit (.bool false)], args := [d] }
  | _ => none }
def TrimAllWrongFalsely : Prop := trimAllRow.holds Tryz.pinned (OpenSpec.ofChange trimAllWrong)

/-- 'virgationlaw23.TrimTree': WHATEVER THE INPUT: true; the input reads as it did. -/
def trimTreeSpec : ChangeSpec := { name := "trimTree", fn := fun _ => fun
  | [d1, d2, d3, d4] => { results := [.lit (.bool true)], args := [d1, d2, d3, d4] }
  | _ => none }
def trimTreeRow : OpenClaim := { program := "ytoifckjdnldlpaagreat", sum := "7a13d810f0e919c67127febb5fad6221a53bd19457d0b2b83681ed6f1eed2c57", func := "virgation/virgationlaw23.TrimTree", spec := "trimTree", unfollowed := true, recurses := true, loops := true, plainKeys := false, apart := false }
def TrimTreeSaid : Prop := trimTreeRow.holds Tryz.pinned (OpenSpec.ofChange trimTreeSpec)

/-- ITS FALSE NEIGHBOUR: 'it returns false'. Refute it at one input. -/
def trimTreeWrong : ChangeSpec := { name := "trimTree", fn := fun _ => fun
  | [d1, d2, d3, d4] => { results := [.lit (.bool false)], args := [d1, d2, d3, d4] }
  | _ => none }
def TrimTreeWrongFalsely : Prop := trimTreeRow.holds Tryz.pinned (OpenSpec.ofChange trimTreeWrong)

/-- 'virgationlaw19.FlowHeads': WHATEVER THE INPUT: true; the input reads as it did. -/
def flowHeadsSpec : ChangeSpec := { name := "flowHeads", fn := fun _ => fun
  | [d1, d2] => { results := [.lit (.bool true)], args := [d1, d2] }
  | _ => none }
def flowHeadsRow : OpenClaim := { program := "ytoifckjdnldlpaagreat", sum := "7a13d810f0e919c67127febb5fad6221a53bd19457d0b2b83681ed6f1eed2c57", func := "virgation/virgationlaw19.FlowHeads", spec := "flowHeads", unfollowed := true, recurses := true, loops := true, plainKeys := false, apart := false }
def FlowHeadsSaid : Prop := flowHeadsRow.holds Tryz.pinned (OpenSpec.ofChange flowHeadsSpec)

/-- ITS FALSE NEIGHBOUR: 'it returns false'. Refute it at one input. -/
def flowHeadsWrong : ChangeSpec := { name := "flowHeads", fn := fun _ => fun
  | [d1, d2] => { results := [.lit (.bool false)], args := [d1, d2] }
  | _ => none }
def FlowHeadsWrongFalsely : Prop := flowHeadsRow.holds Tryz.pinned (OpenSpec.ofChange flowHeadsWrong)

/-- 'virgationlaw19.FlowOwn': WHATEVER THE INPUT: true; the input reads as it did. -/
def flowOwnSpec : ChangeSpec := { name := "flowOwn", fn := fun _ => fun
  | [d1, d2, d3] => { results := [.lit (.bool true)], args := [d1, d2, d3] }
  | _ => none }
def flowOwnRow : OpenClaim := { program := "ytoifckjdnldlpaagreat", sum := "7a13d810f0e919c67127febb5fad6221a53bd19457d0b2b83681ed6f1eed2c57", func := "virgation/virgationlaw19.FlowOwn", spec := "flowOwn", unfollowed := true, recurses := true, loops := true, plainKeys := false, apart := false }
def FlowOwnSaid : Prop := flowOwnRow.holds Tryz.pinned (OpenSpec.ofChange flowOwnSpec)

/-- ITS FALSE NEIGHBOUR: 'it returns false'. Refute it at one input. -/
def flowOwnWrong : ChangeSpec := { name := "flowOwn", fn := fun _ => fun
  | [d1, d2, d3] => { results := [.lit (.bool false)], args := [d1, d2, d3] }
  | _ => none }
def FlowOwnWrongFalsely : Prop := flowOwnRow.holds Tryz.pinned (OpenSpec.ofChange flowOwnWrong)

/- THE SECOND FORM. 'bulk': how many values and letters a reading holds, each counted each time it is reached (what is shared counts as often as it is met; a slice's spare places count too). A statement '..UptoSaid' is the law's where the arguments, and the package variables that the reading takes, are together of bulk at most 1048576: NARROWER than '..Said'. Prove '..Said' where nothing that the law and all that it calls make is longer than what came in: it says more and counts as full. Else prove '..UptoSaid'. A law counts once. -/
mutual
def uptoBulk {H : Type} : DataW H → Nat
  | .lit (.string bytes) => bytes.length + 1
  | .lit _ => 1
  | .nil => 1
  | .ptr d => uptoBulk d + 1
  | .slice elems spare => uptoBulkAll elems + uptoBulkAll spare + 1
  | .agg parts => uptoBulkAll parts + 1
  | .iface _ d => uptoBulk d + 1
  | .map entries => uptoBulkEntries entries + 1
  | .held _ => 1
def uptoBulkAll {H : Type} : List (DataW H) → Nat
  | [] => 0
  | d :: r => uptoBulk d + uptoBulkAll r
def uptoBulkEntries {H : Type} : List (Lit × DataW H) → Nat
  | [] => 0
  | x :: r => uptoBulkEntry x + uptoBulkEntries r
def uptoBulkEntry {H : Type} : Lit × DataW H → Nat
  | (.string bytes, d) => bytes.length + uptoBulk d + 1
  | (_, d) => uptoBulk d + 1
 end
def uptoSmall : (H : Type) → List (DataW H) → Bool := fun _ ds => decide (uptoBulkAll ds ≤ 1048576)
def OpenSpec.upto (s : _root_.Go.ChangeSpec) : _root_.Go.OpenSpec := { _root_.Go.OpenSpec.ofChange s with cond := some uptoSmall }

/-- 'virgationlaw23.TrimAll', WHERE WHAT IT READS IS OF BULK AT MOST 1048576: true; the input reads as it did. -/
def trimAllUptoRow : OpenClaim := { program := "ytoifckjdnldlpaagreat", sum := "7a13d810f0e919c67127febb5fad6221a53bd19457d0b2b83681ed6f1eed2c57", func := "virgation/virgationlaw23.TrimAll", spec := "trimAll", unfollowed := true, recurses := true, loops := true, plainKeys := false, apart := false, narrowed := true }
def TrimAllUptoSaid : Prop := trimAllUptoRow.holds Tryz.pinned (OpenSpec.upto trimAllSpec)

/-- 'virgationlaw23.TrimTree', WHERE WHAT IT READS IS OF BULK AT MOST 1048576: true; the input reads as it did. -/
def trimTreeUptoRow : OpenClaim := { program := "ytoifckjdnldlpaagreat", sum := "7a13d810f0e919c67127febb5fad6221a53bd19457d0b2b83681ed6f1eed2c57", func := "virgation/virgationlaw23.TrimTree", spec := "trimTree", unfollowed := true, recurses := true, loops := true, plainKeys := false, apart := false, narrowed := true }
def TrimTreeUptoSaid : Prop := trimTreeUptoRow.holds Tryz.pinned (OpenSpec.upto trimTreeSpec)

/-- 'virgationlaw19.FlowHeads', WHERE WHAT IT READS IS OF BULK AT MOST 1048576: true; the input reads as it did. -/
def flowHeadsUptoRow : OpenClaim := { program := "ytoifckjdnldlpaagreat", sum := "7a13d810f0e919c67127febb5fad6221a53bd19457d0b2b83681ed6f1eed2c57", func := "virgation/virgationlaw19.FlowHeads", spec := "flowHeads", unfollowed := true, recurses := true, loops := true, plainKeys := false, apart := false, narrowed := true }
def FlowHeadsUptoSaid : Prop := flowHeadsUptoRow.holds Tryz.pinned (OpenSpec.upto flowHeadsSpec)

/-- 'virgationlaw19.FlowOwn', WHERE WHAT IT READS IS OF BULK AT MOST 1048576: true; the input reads as it did. -/
def flowOwnUptoRow : OpenClaim := { program := "ytoifckjdnldlpaagreat", sum := "7a13d810f0e919c67127febb5fad6221a53bd19457d0b2b83681ed6f1eed2c57", func := "virgation/virgationlaw19.FlowOwn", spec := "flowOwn", unfollowed := true, recurses := true, loops := true, plainKeys := false, apart := false, narrowed := true }
def FlowOwnUptoSaid : Prop := flowOwnUptoRow.holds Tryz.pinned (OpenSpec.upto flowOwnSpec)

end Rows
end Go.Proofs.YtoifckjdnldlpaaGreat
