/-
  NARROWER THAN 'FOR EVERY INPUT', by the rows' own cells (each row's printed sentence says how): TermCheck: loops · TermSort: loops · TermSubst: loops · TermSorts: loops · TermNodes: loops · TermSize: loops · TermTwice: loops · TermApply: loops · TrimReach: loops · TrimMerge: loops · TrimDrop: loops · TrimInline: loops · TrimSmaller: loops · TrimOwn: loops · TermFree: loops · TermSelf: loops · TermOwn: loops · FlowAt: loops · FlowSets: loops · FlowLess: loops · FlowReached: loops · FlowSorts: loops · FlowComes: loops · FlowRuns: loops.
  DERIVED. THE GIVEN ROWS OF THIS SEAT. 24 by the template 'for every input the law returns true; each argument reads behind the call as it read before'; 0 by the template 'total and deterministic' (their statements: YtoifckjdnldlpaaTotals.lean).
  GIVEN WITH THE SEED: the statements are not yours to turn. If you find one false, say at which input.
  Laid BY PROGRAM, IN A SANDBOX (cutbox-rows.mjs): the forced cells as the released guide's own fill.sh prints them over the translation 6603cd363bd35b05… (all of the seat's roots in one cut). By AI agents, Wed Nov 11 2026. No macro, syntax, notation, axiom, sorry.
-/
import Derived.Test.YtoifckjdnldlpaaChecked
import GoSem.Claim
import GoSem.ClaimJoined
import GoSem.ClaimMapViews
import Derived.JoinedTies
import Derived.KernelRfl
namespace Go.Proofs.Ytoifckjdnldlpaa
/- THE CELL 'sum', in the pinned program and in every row, IS THE sha256 OF THE DUMP (.gsa) THAT YtoifckjdnldlpaaProg.lean LOADS. Nothing in Lean hashes anything: it is a label: what it is worth is what the hold of that sum in a sandbox is worth. -/
noncomputable def Try.pinned : Pinned := { name := "ytoifckjdnldlpaa", sum := "6603cd363bd35b0512f6962b378e674237e7392cc43779f1d8adab85c2766a53", checked := Try.checked }
namespace Rows
def none {H : Type} : Left H := { results := [], args := [] }

/-- 'virgationlaw02.TermCheck': WHATEVER THE INPUT: true; the input reads as it did. -/
def termCheckSpec : ChangeSpec := { name := "termCheck", fn := fun _ => fun
  | [d] => { results := [.lit (.bool true)], args := [d] }
  | _ => none }
def termCheckRow : OpenClaim := { program := "ytoifckjdnldlpaa", sum := "6603cd363bd35b0512f6962b378e674237e7392cc43779f1d8adab85c2766a53", func := "virgation/virgationlaw02.TermCheck", spec := "termCheck", unfollowed := true, recurses := true, loops := true, plainKeys := false, apart := false }
def TermCheckSaid : Prop := termCheckRow.holds Try.pinned (OpenSpec.ofChange termCheckSpec)

/-- ITS FALSE NEIGHBOUR: 'it returns false'. Refute it at one input. -/
def termCheckWrong : ChangeSpec := { name := "termCheck", fn := fun _ => fun
  | [d] => { results := [.lit (.bool false)], args := [d] }
  | _ => none }
def TermCheckWrongFalsely : Prop := termCheckRow.holds Try.pinned (OpenSpec.ofChange termCheckWrong)

/-- 'virgationlaw02.TermSort': WHATEVER THE INPUT: true; the input reads as it did. -/
def termSortSpec : ChangeSpec := { name := "termSort", fn := fun _ => fun
  | [d1, d2] => { results := [.lit (.bool true)], args := [d1, d2] }
  | _ => none }
def termSortRow : OpenClaim := { program := "ytoifckjdnldlpaa", sum := "6603cd363bd35b0512f6962b378e674237e7392cc43779f1d8adab85c2766a53", func := "virgation/virgationlaw02.TermSort", spec := "termSort", unfollowed := true, recurses := true, loops := true, plainKeys := false, apart := false }
def TermSortSaid : Prop := termSortRow.holds Try.pinned (OpenSpec.ofChange termSortSpec)

/-- ITS FALSE NEIGHBOUR: 'it returns false'. Refute it at one input. -/
def termSortWrong : ChangeSpec := { name := "termSort", fn := fun _ => fun
  | [d1, d2] => { results := [.lit (.bool false)], args := [d1, d2] }
  | _ => none }
def TermSortWrongFalsely : Prop := termSortRow.holds Try.pinned (OpenSpec.ofChange termSortWrong)

/-- 'virgationlaw02.TermSubst': WHATEVER THE INPUT: true; the input reads as it did. -/
def termSubstSpec : ChangeSpec := { name := "termSubst", fn := fun _ => fun
  | [d1, d2] => { results := [.lit (.bool true)], args := [d1, d2] }
  | _ => none }
def termSubstRow : OpenClaim := { program := "ytoifckjdnldlpaa", sum := "6603cd363bd35b0512f6962b378e674237e7392cc43779f1d8adab85c2766a53", func := "virgation/virgationlaw02.TermSubst", spec := "termSubst", unfollowed := true, recurses := true, loops := true, plainKeys := false, apart := false }
def TermSubstSaid : Prop := termSubstRow.holds Try.pinned (OpenSpec.ofChange termSubstSpec)

/-- ITS FALSE NEIGHBOUR: 'it returns false'. Refute it at one input. -/
def termSubstWrong : ChangeSpec := { name := "termSubst", fn := fun _ => fun
  | [d1, d2] => { results := [.lit (.bool false)], args := [d1, d2] }
  | _ => none }
def TermSubstWrongFalsely : Prop := termSubstRow.holds Try.pinned (OpenSpec.ofChange termSubstWrong)

/-- 'virgationlaw02.TermSorts': WHATEVER THE INPUT: true; the input reads as it did. -/
def termSortsSpec : ChangeSpec := { name := "termSorts", fn := fun _ => fun
  | [d1, d2, d3, d4] => { results := [.lit (.bool true)], args := [d1, d2, d3, d4] }
  | _ => none }
def termSortsRow : OpenClaim := { program := "ytoifckjdnldlpaa", sum := "6603cd363bd35b0512f6962b378e674237e7392cc43779f1d8adab85c2766a53", func := "virgation/virgationlaw02.TermSorts", spec := "termSorts", unfollowed := true, recurses := true, loops := true, plainKeys := false, apart := false }
def TermSortsSaid : Prop := termSortsRow.holds Try.pinned (OpenSpec.ofChange termSortsSpec)

/-- ITS FALSE NEIGHBOUR: 'it returns false'. Refute it at one input. -/
def termSortsWrong : ChangeSpec := { name := "termSorts", fn := fun _ => fun
  | [d1, d2, d3, d4] => { results := [.lit (.bool false)], args := [d1, d2, d3, d4] }
  | _ => none }
def TermSortsWrongFalsely : Prop := termSortsRow.holds Try.pinned (OpenSpec.ofChange termSortsWrong)

/-- 'virgationlaw02.TermNodes': WHATEVER THE INPUT: true; the input reads as it did. -/
def termNodesSpec : ChangeSpec := { name := "termNodes", fn := fun _ => fun
  | [d1, d2] => { results := [.lit (.bool true)], args := [d1, d2] }
  | _ => none }
def termNodesRow : OpenClaim := { program := "ytoifckjdnldlpaa", sum := "6603cd363bd35b0512f6962b378e674237e7392cc43779f1d8adab85c2766a53", func := "virgation/virgationlaw02.TermNodes", spec := "termNodes", unfollowed := true, recurses := true, loops := true, plainKeys := false, apart := false }
def TermNodesSaid : Prop := termNodesRow.holds Try.pinned (OpenSpec.ofChange termNodesSpec)

/-- ITS FALSE NEIGHBOUR: 'it returns false'. Refute it at one input. -/
def termNodesWrong : ChangeSpec := { name := "termNodes", fn := fun _ => fun
  | [d1, d2] => { results := [.lit (.bool false)], args := [d1, d2] }
  | _ => none }
def TermNodesWrongFalsely : Prop := termNodesRow.holds Try.pinned (OpenSpec.ofChange termNodesWrong)

/-- 'virgationlaw02.TermSize': WHATEVER THE INPUT: true; the input reads as it did. -/
def termSizeSpec : ChangeSpec := { name := "termSize", fn := fun _ => fun
  | [d1, d2] => { results := [.lit (.bool true)], args := [d1, d2] }
  | _ => none }
def termSizeRow : OpenClaim := { program := "ytoifckjdnldlpaa", sum := "6603cd363bd35b0512f6962b378e674237e7392cc43779f1d8adab85c2766a53", func := "virgation/virgationlaw02.TermSize", spec := "termSize", unfollowed := true, recurses := true, loops := true, plainKeys := false, apart := false }
def TermSizeSaid : Prop := termSizeRow.holds Try.pinned (OpenSpec.ofChange termSizeSpec)

/-- ITS FALSE NEIGHBOUR: 'it returns false'. Refute it at one input. -/
def termSizeWrong : ChangeSpec := { name := "termSize", fn := fun _ => fun
  | [d1, d2] => { results := [.lit (.bool false)], args := [d1, d2] }
  | _ => none }
def TermSizeWrongFalsely : Prop := termSizeRow.holds Try.pinned (OpenSpec.ofChange termSizeWrong)

/-- 'virgationlaw02.TermTwice': WHATEVER THE INPUT: true; the input reads as it did. -/
def termTwiceSpec : ChangeSpec := { name := "termTwice", fn := fun _ => fun
  | [d1, d2, d3] => { results := [.lit (.bool true)], args := [d1, d2, d3] }
  | _ => none }
def termTwiceRow : OpenClaim := { program := "ytoifckjdnldlpaa", sum := "6603cd363bd35b0512f6962b378e674237e7392cc43779f1d8adab85c2766a53", func := "virgation/virgationlaw02.TermTwice", spec := "termTwice", unfollowed := true, recurses := true, loops := true, plainKeys := false, apart := false }
def TermTwiceSaid : Prop := termTwiceRow.holds Try.pinned (OpenSpec.ofChange termTwiceSpec)

/-- ITS FALSE NEIGHBOUR: 'it returns false'. Refute it at one input. -/
def termTwiceWrong : ChangeSpec := { name := "termTwice", fn := fun _ => fun
  | [d1, d2, d3] => { results := [.lit (.bool false)], args := [d1, d2, d3] }
  | _ => none }
def TermTwiceWrongFalsely : Prop := termTwiceRow.holds Try.pinned (OpenSpec.ofChange termTwiceWrong)

/-- 'virgationlaw02.TermApply': WHATEVER THE INPUT: true; the input reads as it did. -/
def termApplySpec : ChangeSpec := { name := "termApply", fn := fun _ => fun
  | [d1, d2] => { results := [.lit (.bool true)], args := [d1, d2] }
  | _ => none }
def termApplyRow : OpenClaim := { program := "ytoifckjdnldlpaa", sum := "6603cd363bd35b0512f6962b378e674237e7392cc43779f1d8adab85c2766a53", func := "virgation/virgationlaw02.TermApply", spec := "termApply", unfollowed := true, recurses := true, loops := true, plainKeys := false, apart := false }
def TermApplySaid : Prop := termApplyRow.holds Try.pinned (OpenSpec.ofChange termApplySpec)

/-- ITS FALSE NEIGHBOUR: 'it returns false'. Refute it at one input. -/
def termApplyWrong : ChangeSpec := { name := "termApply", fn := fun _ => fun
  | [d1, d2] => { results := [.lit (.bool false)], args := [d1, d2] }
  | _ => none }
def TermApplyWrongFalsely : Prop := termApplyRow.holds Try.pinned (OpenSpec.ofChange termApplyWrong)

/-- 'virgationlaw23.TrimReach': WHATEVER THE INPUT: true; the input reads as it did. -/
def trimReachSpec : ChangeSpec := { name := "trimReach", fn := fun _ => fun
  | [d] => { results := [.lit (.bool true)], args := [d] }
  | _ => none }
def trimReachRow : OpenClaim := { program := "ytoifckjdnldlpaa", sum := "6603cd363bd35b0512f6962b378e674237e7392cc43779f1d8adab85c2766a53", func := "virgation/virgationlaw23.TrimReach", spec := "trimReach", unfollowed := true, recurses := true, loops := true, plainKeys := false, apart := false }
def TrimReachSaid : Prop := trimReachRow.holds Try.pinned (OpenSpec.ofChange trimReachSpec)

/-- ITS FALSE NEIGHBOUR: 'it returns false'. Refute it at one input. -/
def trimReachWrong : ChangeSpec := { name := "trimReach", fn := fun _ => fun
  | [d] => { results := [.lit (.bool false)], args := [d] }
  | _ => none }
def TrimReachWrongFalsely : Prop := trimReachRow.holds Try.pinned (OpenSpec.ofChange trimReachWrong)

/-- 'virgationlaw23.TrimMerge': WHATEVER THE INPUT: true; the input reads as it did. -/
def trimMergeSpec : ChangeSpec := { name := "trimMerge", fn := fun _ => fun
  | [d] => { results := [.lit (.bool true)], args := [d] }
  | _ => none }
def trimMergeRow : OpenClaim := { program := "ytoifckjdnldlpaa", sum := "6603cd363bd35b0512f6962b378e674237e7392cc43779f1d8adab85c2766a53", func := "virgation/virgationlaw23.TrimMerge", spec := "trimMerge", unfollowed := true, recurses := true, loops := true, plainKeys := false, apart := false }
def TrimMergeSaid : Prop := trimMergeRow.holds Try.pinned (OpenSpec.ofChange trimMergeSpec)

/-- ITS FALSE NEIGHBOUR: 'it returns false'. Refute it at one input. -/
def trimMergeWrong : ChangeSpec := { name := "trimMerge", fn := fun _ => fun
  | [d] => { results := [.lit (.bool false)], args := [d] }
  | _ => none }
def TrimMergeWrongFalsely : Prop := trimMergeRow.holds Try.pinned (OpenSpec.ofChange trimMergeWrong)

/-- 'virgationlaw23.TrimDrop': WHATEVER THE INPUT: true; the input reads as it did. -/
def trimDropSpec : ChangeSpec := { name := "trimDrop", fn := fun _ => fun
  | [d] => { results := [.lit (.bool true)], args := [d] }
  | _ => none }
def trimDropRow : OpenClaim := { program := "ytoifckjdnldlpaa", sum := "6603cd363bd35b0512f6962b378e674237e7392cc43779f1d8adab85c2766a53", func := "virgation/virgationlaw23.TrimDrop", spec := "trimDrop", unfollowed := true, recurses := true, loops := true, plainKeys := false, apart := false }
def TrimDropSaid : Prop := trimDropRow.holds Try.pinned (OpenSpec.ofChange trimDropSpec)

/-- ITS FALSE NEIGHBOUR: 'it returns false'. Refute it at one input. -/
def trimDropWrong : ChangeSpec := { name := "trimDrop", fn := fun _ => fun
  | [d] => { results := [.lit (.bool false)], args := [d] }
  | _ => none }
def TrimDropWrongFalsely : Prop := trimDropRow.holds Try.pinned (OpenSpec.ofChange trimDropWrong)

/-- 'virgationlaw23.TrimInline': WHATEVER THE INPUT: true; the input reads as it did. -/
def trimInlineSpec : ChangeSpec := { name := "trimInline", fn := fun _ => fun
  | [d] => { results := [.lit (.bool true)], args := [d] }
  | _ => none }
def trimInlineRow : OpenClaim := { program := "ytoifckjdnldlpaa", sum := "6603cd363bd35b0512f6962b378e674237e7392cc43779f1d8adab85c2766a53", func := "virgation/virgationlaw23.TrimInline", spec := "trimInline", unfollowed := true, recurses := true, loops := true, plainKeys := false, apart := false }
def TrimInlineSaid : Prop := trimInlineRow.holds Try.pinned (OpenSpec.ofChange trimInlineSpec)

/-- ITS FALSE NEIGHBOUR: 'it returns false'. Refute it at one input. -/
def trimInlineWrong : ChangeSpec := { name := "trimInline", fn := fun _ => fun
  | [d] => { results := [.lit (.bool false)], args := [d] }
  | _ => none }
def TrimInlineWrongFalsely : Prop := trimInlineRow.holds Try.pinned (OpenSpec.ofChange trimInlineWrong)

/-- 'virgationlaw23.TrimSmaller': WHATEVER THE INPUT: true; the input reads as it did. -/
def trimSmallerSpec : ChangeSpec := { name := "trimSmaller", fn := fun _ => fun
  | [d1, d2] => { results := [.lit (.bool true)], args := [d1, d2] }
  | _ => none }
def trimSmallerRow : OpenClaim := { program := "ytoifckjdnldlpaa", sum := "6603cd363bd35b0512f6962b378e674237e7392cc43779f1d8adab85c2766a53", func := "virgation/virgationlaw23.TrimSmaller", spec := "trimSmaller", unfollowed := true, recurses := true, loops := true, plainKeys := false, apart := false }
def TrimSmallerSaid : Prop := trimSmallerRow.holds Try.pinned (OpenSpec.ofChange trimSmallerSpec)

/-- ITS FALSE NEIGHBOUR: 'it returns false'. Refute it at one input. -/
def trimSmallerWrong : ChangeSpec := { name := "trimSmaller", fn := fun _ => fun
  | [d1, d2] => { results := [.lit (.bool false)], args := [d1, d2] }
  | _ => none }
def TrimSmallerWrongFalsely : Prop := trimSmallerRow.holds Try.pinned (OpenSpec.ofChange trimSmallerWrong)

/-- 'virgationlaw23.TrimOwn': WHATEVER THE INPUT: true; the input reads as it did. -/
def trimOwnSpec : ChangeSpec := { name := "trimOwn", fn := fun _ => fun
  | [d1, d2] => { results := [.lit (.bool true)], args := [d1, d2] }
  | _ => none }
def trimOwnRow : OpenClaim := { program := "ytoifckjdnldlpaa", sum := "6603cd363bd35b0512f6962b378e674237e7392cc43779f1d8adab85c2766a53", func := "virgation/virgationlaw23.TrimOwn", spec := "trimOwn", unfollowed := true, recurses := true, loops := true, plainKeys := false, apart := false }
def TrimOwnSaid : Prop := trimOwnRow.holds Try.pinned (OpenSpec.ofChange trimOwnSpec)

/-- ITS FALSE NEIGHBOUR: 'it returns false'. Refute it at one input. -/
def trimOwnWrong : ChangeSpec := { name := "trimOwn", fn := fun _ => fun
  | [d1, d2] => { results := [.lit (.bool false)], args := [d1, d2] }
  | _ => none }
def TrimOwnWrongFalsely : Prop := trimOwnRow.holds Try.pinned (OpenSpec.ofChange trimOwnWrong)

/-- 'virgationlaw02.TermFree': WHATEVER THE INPUT: true; the input reads as it did. -/
def termFreeSpec : ChangeSpec := { name := "termFree", fn := fun _ => fun
  | [d] => { results := [.lit (.bool true)], args := [d] }
  | _ => none }
def termFreeRow : OpenClaim := { program := "ytoifckjdnldlpaa", sum := "6603cd363bd35b0512f6962b378e674237e7392cc43779f1d8adab85c2766a53", func := "virgation/virgationlaw02.TermFree", spec := "termFree", unfollowed := true, recurses := true, loops := true, plainKeys := false, apart := false }
def TermFreeSaid : Prop := termFreeRow.holds Try.pinned (OpenSpec.ofChange termFreeSpec)

/-- ITS FALSE NEIGHBOUR: 'it returns false'. Refute it at one input. -/
def termFreeWrong : ChangeSpec := { name := "termFree", fn := fun _ => fun
  | [d] => { results := [.lit (.bool false)], args := [d] }
  | _ => none }
def TermFreeWrongFalsely : Prop := termFreeRow.holds Try.pinned (OpenSpec.ofChange termFreeWrong)

/-- 'virgationlaw02.TermSelf': WHATEVER THE INPUT: true; the input reads as it did. -/
def termSelfSpec : ChangeSpec := { name := "termSelf", fn := fun _ => fun
  | [d] => { results := [.lit (.bool true)], args := [d] }
  | _ => none }
def termSelfRow : OpenClaim := { program := "ytoifckjdnldlpaa", sum := "6603cd363bd35b0512f6962b378e674237e7392cc43779f1d8adab85c2766a53", func := "virgation/virgationlaw02.TermSelf", spec := "termSelf", unfollowed := true, recurses := true, loops := true, plainKeys := false, apart := false }
def TermSelfSaid : Prop := termSelfRow.holds Try.pinned (OpenSpec.ofChange termSelfSpec)

/-- ITS FALSE NEIGHBOUR: 'it returns false'. Refute it at one input. -/
def termSelfWrong : ChangeSpec := { name := "termSelf", fn := fun _ => fun
  | [d] => { results := [.lit (.bool false)], args := [d] }
  | _ => none }
def TermSelfWrongFalsely : Prop := termSelfRow.holds Try.pinned (OpenSpec.ofChange termSelfWrong)

/-- 'virgationlaw02.TermOwn': WHATEVER THE INPUT: true; the input reads as it did. -/
def termOwnSpec : ChangeSpec := { name := "termOwn", fn := fun _ => fun
  | [d1, d2, d3] => { results := [.lit (.bool true)], args := [d1, d2, d3] }
  | _ => none }
def termOwnRow : OpenClaim := { program := "ytoifckjdnldlpaa", sum := "6603cd363bd35b0512f6962b378e674237e7392cc43779f1d8adab85c2766a53", func := "virgation/virgationlaw02.TermOwn", spec := "termOwn", unfollowed := true, recurses := true, loops := true, plainKeys := false, apart := false }
def TermOwnSaid : Prop := termOwnRow.holds Try.pinned (OpenSpec.ofChange termOwnSpec)

/-- ITS FALSE NEIGHBOUR: 'it returns false'. Refute it at one input. -/
def termOwnWrong : ChangeSpec := { name := "termOwn", fn := fun _ => fun
  | [d1, d2, d3] => { results := [.lit (.bool false)], args := [d1, d2, d3] }
  | _ => none }
def TermOwnWrongFalsely : Prop := termOwnRow.holds Try.pinned (OpenSpec.ofChange termOwnWrong)

/-- 'virgationlaw19.FlowAt': WHATEVER THE INPUT: true; the input reads as it did. -/
def flowAtSpec : ChangeSpec := { name := "flowAt", fn := fun _ => fun
  | [d1, d2] => { results := [.lit (.bool true)], args := [d1, d2] }
  | _ => none }
def flowAtRow : OpenClaim := { program := "ytoifckjdnldlpaa", sum := "6603cd363bd35b0512f6962b378e674237e7392cc43779f1d8adab85c2766a53", func := "virgation/virgationlaw19.FlowAt", spec := "flowAt", unfollowed := true, recurses := true, loops := true, plainKeys := false, apart := false }
def FlowAtSaid : Prop := flowAtRow.holds Try.pinned (OpenSpec.ofChange flowAtSpec)

/-- ITS FALSE NEIGHBOUR: 'it returns false'. Refute it at one input. -/
def flowAtWrong : ChangeSpec := { name := "flowAt", fn := fun _ => fun
  | [d1, d2] => { results := [.lit (.bool false)], args := [d1, d2] }
  | _ => none }
def FlowAtWrongFalsely : Prop := flowAtRow.holds Try.pinned (OpenSpec.ofChange flowAtWrong)

/-- 'virgationlaw19.FlowSets': WHATEVER THE INPUT: true; the input reads as it did. -/
def flowSetsSpec : ChangeSpec := { name := "flowSets", fn := fun _ => fun
  | [d] => { results := [.lit (.bool true)], args := [d] }
  | _ => none }
def flowSetsRow : OpenClaim := { program := "ytoifckjdnldlpaa", sum := "6603cd363bd35b0512f6962b378e674237e7392cc43779f1d8adab85c2766a53", func := "virgation/virgationlaw19.FlowSets", spec := "flowSets", unfollowed := true, recurses := true, loops := true, plainKeys := false, apart := false }
def FlowSetsSaid : Prop := flowSetsRow.holds Try.pinned (OpenSpec.ofChange flowSetsSpec)

/-- ITS FALSE NEIGHBOUR: 'it returns false'. Refute it at one input. -/
def flowSetsWrong : ChangeSpec := { name := "flowSets", fn := fun _ => fun
  | [d] => { results := [.lit (.bool false)], args := [d] }
  | _ => none }
def FlowSetsWrongFalsely : Prop := flowSetsRow.holds Try.pinned (OpenSpec.ofChange flowSetsWrong)

/-- 'virgationlaw19.FlowLess': WHATEVER THE INPUT: true; the input reads as it did. -/
def flowLessSpec : ChangeSpec := { name := "flowLess", fn := fun _ => fun
  | [d1, d2] => { results := [.lit (.bool true)], args := [d1, d2] }
  | _ => none }
def flowLessRow : OpenClaim := { program := "ytoifckjdnldlpaa", sum := "6603cd363bd35b0512f6962b378e674237e7392cc43779f1d8adab85c2766a53", func := "virgation/virgationlaw19.FlowLess", spec := "flowLess", unfollowed := true, recurses := true, loops := true, plainKeys := false, apart := false }
def FlowLessSaid : Prop := flowLessRow.holds Try.pinned (OpenSpec.ofChange flowLessSpec)

/-- ITS FALSE NEIGHBOUR: 'it returns false'. Refute it at one input. -/
def flowLessWrong : ChangeSpec := { name := "flowLess", fn := fun _ => fun
  | [d1, d2] => { results := [.lit (.bool false)], args := [d1, d2] }
  | _ => none }
def FlowLessWrongFalsely : Prop := flowLessRow.holds Try.pinned (OpenSpec.ofChange flowLessWrong)

/-- 'virgationlaw19.FlowReached': WHATEVER THE INPUT: true; the input reads as it did. -/
def flowReachedSpec : ChangeSpec := { name := "flowReached", fn := fun _ => fun
  | [d] => { results := [.lit (.bool true)], args := [d] }
  | _ => none }
def flowReachedRow : OpenClaim := { program := "ytoifckjdnldlpaa", sum := "6603cd363bd35b0512f6962b378e674237e7392cc43779f1d8adab85c2766a53", func := "virgation/virgationlaw19.FlowReached", spec := "flowReached", unfollowed := true, recurses := true, loops := true, plainKeys := false, apart := false }
def FlowReachedSaid : Prop := flowReachedRow.holds Try.pinned (OpenSpec.ofChange flowReachedSpec)

/-- ITS FALSE NEIGHBOUR: 'it returns false'. Refute it at one input. -/
def flowReachedWrong : ChangeSpec := { name := "flowReached", fn := fun _ => fun
  | [d] => { results := [.lit (.bool false)], args := [d] }
  | _ => none }
def FlowReachedWrongFalsely : Prop := flowReachedRow.holds Try.pinned (OpenSpec.ofChange flowReachedWrong)

/-- 'virgationlaw19.FlowSorts': WHATEVER THE INPUT: true; the input reads as it did. -/
def flowSortsSpec : ChangeSpec := { name := "flowSorts", fn := fun _ => fun
  | [d] => { results := [.lit (.bool true)], args := [d] }
  | _ => none }
def flowSortsRow : OpenClaim := { program := "ytoifckjdnldlpaa", sum := "6603cd363bd35b0512f6962b378e674237e7392cc43779f1d8adab85c2766a53", func := "virgation/virgationlaw19.FlowSorts", spec := "flowSorts", unfollowed := true, recurses := true, loops := true, plainKeys := false, apart := false }
def FlowSortsSaid : Prop := flowSortsRow.holds Try.pinned (OpenSpec.ofChange flowSortsSpec)

/-- ITS FALSE NEIGHBOUR: 'it returns false'. Refute it at one input. -/
def flowSortsWrong : ChangeSpec := { name := "flowSorts", fn := fun _ => fun
  | [d] => { results := [.lit (.bool false)], args := [d] }
  | _ => none }
def FlowSortsWrongFalsely : Prop := flowSortsRow.holds Try.pinned (OpenSpec.ofChange flowSortsWrong)

/-- 'virgationlaw19.FlowComes': WHATEVER THE INPUT: true; the input reads as it did. -/
def flowComesSpec : ChangeSpec := { name := "flowComes", fn := fun _ => fun
  | [d1, d2, d3, d4] => { results := [.lit (.bool true)], args := [d1, d2, d3, d4] }
  | _ => none }
def flowComesRow : OpenClaim := { program := "ytoifckjdnldlpaa", sum := "6603cd363bd35b0512f6962b378e674237e7392cc43779f1d8adab85c2766a53", func := "virgation/virgationlaw19.FlowComes", spec := "flowComes", unfollowed := true, recurses := true, loops := true, plainKeys := false, apart := false }
def FlowComesSaid : Prop := flowComesRow.holds Try.pinned (OpenSpec.ofChange flowComesSpec)

/-- ITS FALSE NEIGHBOUR: 'it returns false'. Refute it at one input. -/
def flowComesWrong : ChangeSpec := { name := "flowComes", fn := fun _ => fun
  | [d1, d2, d3, d4] => { results := [.lit (.bool false)], args := [d1, d2, d3, d4] }
  | _ => none }
def FlowComesWrongFalsely : Prop := flowComesRow.holds Try.pinned (OpenSpec.ofChange flowComesWrong)

/-- 'virgationlaw19.FlowRuns': WHATEVER THE INPUT: true; the input reads as it did. -/
def flowRunsSpec : ChangeSpec := { name := "flowRuns", fn := fun _ => fun
  | [d] => { results := [.lit (.bool true)], args := [d] }
  | _ => none }
def flowRunsRow : OpenClaim := { program := "ytoifckjdnldlpaa", sum := "6603cd363bd35b0512f6962b378e674237e7392cc43779f1d8adab85c2766a53", func := "virgation/virgationlaw19.FlowRuns", spec := "flowRuns", unfollowed := true, recurses := true, loops := true, plainKeys := false, apart := false }
def FlowRunsSaid : Prop := flowRunsRow.holds Try.pinned (OpenSpec.ofChange flowRunsSpec)

/-- ITS FALSE NEIGHBOUR: 'it returns false'. Refute it at one input. -/
def flowRunsWrong : ChangeSpec := { name := "flowRuns", fn := fun _ => fun
  | [d] => { results := [.lit (.bool false)], args := [d] }
  | _ => none }
def FlowRunsWrongFalsely : Prop := flowRunsRow.holds Try.pinned (OpenSpec.ofChange flowRunsWrong)

/- THE SECOND FORM. 'bulk': how many values and letters a reading holds, each counted each time it is reached (what is shared counts as often as it is met; a slice's spare places count too). A statement '..UptoSaid' is the law's where the arguments, and the package variables that the reading takes, are together of bulk at most 1048576: NARROWER than '..Said'. Prove '..Said' where nothing that the law and all that it calls make is longer than what came in: it says more and counts as full. Else prove '..UptoSaid'. A law counts once. -/
mutual
def uptoBulk {H : Type} : DataW H → Nat
  | .lit (.string bytes) => bytes.length + 1
  | .lit _ => 1
  | .nil => 1
  | .ptr d => uptoBulk d + 1
  | .slice elems spare => uptoBulkAll elems + uptoBulkAll spare + 1
  | .agg parts => uptoBulkAll parts + 1
  | .iface _ d => uptoBulk d + 1
  | .map entries => uptoBulkEntries entries + 1
  | .held _ => 1
def uptoBulkAll {H : Type} : List (DataW H) → Nat
  | [] => 0
  | d :: r => uptoBulk d + uptoBulkAll r
def uptoBulkEntries {H : Type} : List (Lit × DataW H) → Nat
  | [] => 0
  | x :: r => uptoBulkEntry x + uptoBulkEntries r
def uptoBulkEntry {H : Type} : Lit × DataW H → Nat
  | (.string bytes, d) => bytes.length + uptoBulk d + 1
  | (_, d) => uptoBulk d + 1
 end
def uptoSmall : (H : Type) → List (DataW H) → Bool := fun _ ds => decide (uptoBulkAll ds ≤ 1048576)
def OpenSpec.upto (s : _root_.Go.ChangeSpec) : _root_.Go.OpenSpec := { _root_.Go.OpenSpec.ofChange s with cond := some uptoSmall }

/-- 'virgationlaw02.TermCheck', WHERE WHAT IT READS IS OF BULK AT MOST 1048576: true; the input reads as it did. -/
def termCheckUptoRow : OpenClaim := { program := "ytoifckjdnldlpaa", sum := "6603cd363bd35b0512f6962b378e674237e7392cc43779f1d8adab85c2766a53", func := "virgation/virgationlaw02.TermCheck", spec := "termCheck", unfollowed := true, recurses := true, loops := true, plainKeys := false, apart := false, narrowed := true }
def TermCheckUptoSaid : Prop := termCheckUptoRow.holds Try.pinned (OpenSpec.upto termCheckSpec)

/-- 'virgationlaw02.TermSort', WHERE WHAT IT READS IS OF BULK AT MOST 1048576: true; the input reads as it did. -/
def termSortUptoRow : OpenClaim := { program := "ytoifckjdnldlpaa", sum := "6603cd363bd35b0512f6962b378e674237e7392cc43779f1d8adab85c2766a53", func := "virgation/virgationlaw02.TermSort", spec := "termSort", unfollowed := true, recurses := true, loops := true, plainKeys := false, apart := false, narrowed := true }
def TermSortUptoSaid : Prop := termSortUptoRow.holds Try.pinned (OpenSpec.upto termSortSpec)

/-- 'virgationlaw02.TermSubst', WHERE WHAT IT READS IS OF BULK AT MOST 1048576: true; the input reads as it did. -/
def termSubstUptoRow : OpenClaim := { program := "ytoifckjdnldlpaa", sum := "6603cd363bd35b0512f6962b378e674237e7392cc43779f1d8adab85c2766a53", func := "virgation/virgationlaw02.TermSubst", spec := "termSubst", unfollowed := true, recurses := true, loops := true, plainKeys := false, apart := false, narrowed := true }
def TermSubstUptoSaid : Prop := termSubstUptoRow.holds Try.pinned (OpenSpec.upto termSubstSpec)

/-- 'virgationlaw02.TermSorts', WHERE WHAT IT READS IS OF BULK AT MOST 1048576: true; the input reads as it did. -/
def termSortsUptoRow : OpenClaim := { program := "ytoifckjdnldlpaa", sum := "6603cd363bd35b0512f6962b378e674237e7392cc43779f1d8adab85c2766a53", func := "virgation/virgationlaw02.TermSorts", spec := "termSorts", unfollowed := true, recurses := true, loops := true, plainKeys := false, apart := false, narrowed := true }
def TermSortsUptoSaid : Prop := termSortsUptoRow.holds Try.pinned (OpenSpec.upto termSortsSpec)

/-- 'virgationlaw02.TermNodes', WHERE WHAT IT READS IS OF BULK AT MOST 1048576: true; the input reads as it did. -/
def termNodesUptoRow : OpenClaim := { program := "ytoifckjdnldlpaa", sum := "6603cd363bd35b0512f6962b378e674237e7392cc43779f1d8adab85c2766a53", func := "virgation/virgationlaw02.TermNodes", spec := "termNodes", unfollowed := true, recurses := true, loops := true, plainKeys := false, apart := false, narrowed := true }
def TermNodesUptoSaid : Prop := termNodesUptoRow.holds Try.pinned (OpenSpec.upto termNodesSpec)

/-- 'virgationlaw02.TermSize', WHERE WHAT IT READS IS OF BULK AT MOST 1048576: true; the input reads as it did. -/
def termSizeUptoRow : OpenClaim := { program := "ytoifckjdnldlpaa", sum := "6603cd363bd35b0512f6962b378e674237e7392cc43779f1d8adab85c2766a53", func := "virgation/virgationlaw02.TermSize", spec := "termSize", unfollowed := true, recurses := true, loops := true, plainKeys := false, apart := false, narrowed := true }
def TermSizeUptoSaid : Prop := termSizeUptoRow.holds Try.pinned (OpenSpec.upto termSizeSpec)

/-- 'virgationlaw02.TermTwice', WHERE WHAT IT READS IS OF BULK AT MOST 1048576: true; the input reads as it did. -/
def termTwiceUptoRow : OpenClaim := { program := "ytoifckjdnldlpaa", sum := "6603cd363bd35b0512f6962b378e674237e7392cc43779f1d8adab85c2766a53", func := "virgation/virgationlaw02.TermTwice", spec := "termTwice", unfollowed := true, recurses := true, loops := true, plainKeys := false, apart := false, narrowed := true }
def TermTwiceUptoSaid : Prop := termTwiceUptoRow.holds Try.pinned (OpenSpec.upto termTwiceSpec)

/-- 'virgationlaw02.TermApply', WHERE WHAT IT READS IS OF BULK AT MOST 1048576: true; the input reads as it did. -/
def termApplyUptoRow : OpenClaim := { program := "ytoifckjdnldlpaa", sum := "6603cd363bd35b0512f6962b378e674237e7392cc43779f1d8adab85c2766a53", func := "virgation/virgationlaw02.TermApply", spec := "termApply", unfollowed := true, recurses := true, loops := true, plainKeys := false, apart := false, narrowed := true }
def TermApplyUptoSaid : Prop := termApplyUptoRow.holds Try.pinned (OpenSpec.upto termApplySpec)

/-- 'virgationlaw23.TrimReach', WHERE WHAT IT READS IS OF BULK AT MOST 1048576: true; the input reads as it did. -/
def trimReachUptoRow : OpenClaim := { program := "ytoifckjdnldlpaa", sum := "6603cd363bd35b0512f6962b378e674237e7392cc43779f1d8adab85c2766a53", func := "virgation/virgationlaw23.TrimReach", spec := "trimReach", unfollowed := true, recurses := true, loops := true, plainKeys := false, apart := false, narrowed := true }
def TrimReachUptoSaid : Prop := trimReachUptoRow.holds Try.pinned (OpenSpec.upto trimReachSpec)

/-- 'virgationlaw23.TrimMerge', WHERE WHAT IT READS IS OF BULK AT MOST 1048576: true; the input reads as it did. -/
def trimMergeUptoRow : OpenClaim := { program := "ytoifckjdnldlpaa", sum := "6603cd363bd35b0512f6962b378e674237e7392cc43779f1d8adab85c2766a53", func := "virgation/virgationlaw23.TrimMerge", spec := "trimMerge", unfollowed := true, recurses := true, loops := true, plainKeys := false, apart := false, narrowed := true }
def TrimMergeUptoSaid : Prop := trimMergeUptoRow.holds Try.pinned (OpenSpec.upto trimMergeSpec)

/-- 'virgationlaw23.TrimDrop', WHERE WHAT IT READS IS OF BULK AT MOST 1048576: true; the input reads as it did. -/
def trimDropUptoRow : OpenClaim := { program := "ytoifckjdnldlpaa", sum := "6603cd363bd35b0512f6962b378e674237e7392cc43779f1d8adab85c2766a53", func := "virgation/virgationlaw23.TrimDrop", spec := "trimDrop", unfollowed := true, recurses := true, loops := true, plainKeys := false, apart := false, narrowed := true }
def TrimDropUptoSaid : Prop := trimDropUptoRow.holds Try.pinned (OpenSpec.upto trimDropSpec)

/-- 'virgationlaw23.TrimInline', WHERE WHAT IT READS IS OF BULK AT MOST 1048576: true; the input reads as it did. -/
def trimInlineUptoRow : OpenClaim := { program := "ytoifckjdnldlpaa", sum := "6603cd363bd35b0512f6962b378e674237e7392cc43779f1d8adab85c2766a53", func := "virgation/virgationlaw23.TrimInline", spec := "trimInline", unfollowed := true, recurses := true, loops := true, plainKeys := false, apart := false, narrowed := true }
def TrimInlineUptoSaid : Prop := trimInlineUptoRow.holds Try.pinned (OpenSpec.upto trimInlineSpec)

/-- 'virgationlaw23.TrimSmaller', WHERE WHAT IT READS IS OF BULK AT MOST 1048576: true; the input reads as it did. -/
def trimSmallerUptoRow : OpenClaim := { program := "ytoifckjdnldlpaa", sum := "6603cd363bd35b0512f6962b378e674237e7392cc43779f1d8adab85c2766a53", func := "virgation/virgationlaw23.TrimSmaller", spec := "trimSmaller", unfollowed := true, recurses := true, loops := true, plainKeys := false, apart := false, narrowed := true }
def TrimSmallerUptoSaid : Prop := trimSmallerUptoRow.holds Try.pinned (OpenSpec.upto trimSmallerSpec)

/-- 'virgationlaw23.TrimOwn', WHERE WHAT IT READS IS OF BULK AT MOST 1048576: true; the input reads as it did. -/
def trimOwnUptoRow : OpenClaim := { program := "ytoifckjdnldlpaa", sum := "6603cd363bd35b0512f6962b378e674237e7392cc43779f1d8adab85c2766a53", func := "virgation/virgationlaw23.TrimOwn", spec := "trimOwn", unfollowed := true, recurses := true, loops := true, plainKeys := false, apart := false, narrowed := true }
def TrimOwnUptoSaid : Prop := trimOwnUptoRow.holds Try.pinned (OpenSpec.upto trimOwnSpec)

/-- 'virgationlaw02.TermFree', WHERE WHAT IT READS IS OF BULK AT MOST 1048576: true; the input reads as it did. -/
def termFreeUptoRow : OpenClaim := { program := "ytoifckjdnldlpaa", sum := "6603cd363bd35b0512f6962b378e674237e7392cc43779f1d8adab85c2766a53", func := "virgation/virgationlaw02.TermFree", spec := "termFree", unfollowed := true, recurses := true, loops := true, plainKeys := false, apart := false, narrowed := true }
def TermFreeUptoSaid : Prop := termFreeUptoRow.holds Try.pinned (OpenSpec.upto termFreeSpec)

/-- 'virgationlaw02.TermSelf', WHERE WHAT IT READS IS OF BULK AT MOST 1048576: true; the input reads as it did. -/
def termSelfUptoRow : OpenClaim := { program := "ytoifckjdnldlpaa", sum := "6603cd363bd35b0512f6962b378e674237e7392cc43779f1d8adab85c2766a53", func := "virgation/virgationlaw02.TermSelf", spec := "termSelf", unfollowed := true, recurses := true, loops := true, plainKeys := false, apart := false, narrowed := true }
def TermSelfUptoSaid : Prop := termSelfUptoRow.holds Try.pinned (OpenSpec.upto termSelfSpec)

/-- 'virgationlaw02.TermOwn', WHERE WHAT IT READS IS OF BULK AT MOST 1048576: true; the input reads as it did. -/
def termOwnUptoRow : OpenClaim := { program := "ytoifckjdnldlpaa", sum := "6603cd363bd35b0512f6962b378e674237e7392cc43779f1d8adab85c2766a53", func := "virgation/virgationlaw02.TermOwn", spec := "termOwn", unfollowed := true, recurses := true, loops := true, plainKeys := false, apart := false, narrowed := true }
def TermOwnUptoSaid : Prop := termOwnUptoRow.holds Try.pinned (OpenSpec.upto termOwnSpec)

/-- 'virgationlaw19.FlowAt', WHERE WHAT IT READS IS OF BULK AT MOST 1048576: true; the input reads as it did. -/
def flowAtUptoRow : OpenClaim := { program := "ytoifckjdnldlpaa", sum := "6603cd363bd35b0512f6962b378e674237e7392cc43779f1d8adab85c2766a53", func := "virgation/virgationlaw19.FlowAt", spec := "flowAt", unfollowed := true, recurses := true, loops := true, plainKeys := false, apart := false, narrowed := true }
def FlowAtUptoSaid : Prop := flowAtUptoRow.holds Try.pinned (OpenSpec.upto flowAtSpec)

/-- 'virgationlaw19.FlowSets', WHERE WHAT IT READS IS OF BULK AT MOST 1048576: true; the input reads as it did. -/
def flowSetsUptoRow : OpenClaim := { program := "ytoifckjdnldlpaa", sum := "6603cd363bd35b0512f6962b378e674237e7392cc43779f1d8adab85c2766a53", func := "virgation/virgationlaw19.FlowSets", spec := "flowSets", unfollowed := true, recurses := true, loops := true, plainKeys := false, apart := false, narrowed := true }
def FlowSetsUptoSaid : Prop := flowSetsUptoRow.holds Try.pinned (OpenSpec.upto flowSetsSpec)

/-- 'virgationlaw19.FlowLess', WHERE WHAT IT READS IS OF BULK AT MOST 1048576: true; the input reads as it did. -/
def flowLessUptoRow : OpenClaim := { program := "ytoifckjdnldlpaa", sum := "6603cd363bd35b0512f6962b378e674237e7392cc43779f1d8adab85c2766a53", func := "virgation/virgationlaw19.FlowLess", spec := "flowLess", unfollowed := true, recurses := true, loops := true, plainKeys := false, apart := false, narrowed := true }
def FlowLessUptoSaid : Prop := flowLessUptoRow.holds Try.pinned (OpenSpec.upto flowLessSpec)

/-- 'virgationlaw19.FlowReached', WHERE WHAT IT READS IS OF BULK AT MOST 1048576: true; the input reads as it did. -/
def flowReachedUptoRow : OpenClaim := { program := "ytoifckjdnldlpaa", sum := "6603cd363bd35b0512f6962b378e674237e7392cc43779f1d8adab85c2766a53", func := "virgation/virgationlaw19.FlowReached", spec := "flowReached", unfollowed := true, recurses := true, loops := true, plainKeys := false, apart := false, narrowed := true }
def FlowReachedUptoSaid : Prop := flowReachedUptoRow.holds Try.pinned (OpenSpec.upto flowReachedSpec)

/-- 'virgationlaw19.FlowSorts', WHERE WHAT IT READS IS OF BULK AT MOST 1048576: true; the input reads as it did. -/
def flowSortsUptoRow : OpenClaim := { program := "ytoifckjdnldlpaa", sum := "6603cd363bd35b0512f6962b378e674237e7392cc43779f1d8adab85c2766a53", func := "virgation/virgationlaw19.FlowSorts", spec := "flowSorts", unfollowed := true, recurses := true, loops := true, plainKeys := false, apart := false, narrowed := true }
def FlowSortsUptoSaid : Prop := flowSortsUptoRow.holds Try.pinned (OpenSpec.upto flowSortsSpec)

/-- 'virgationlaw19.FlowComes', WHERE WHAT IT READS IS OF BULK AT MOST 1048576: true; the input reads as it did. -/
def flowComesUptoRow : OpenClaim := { program := "ytoifckjdnldlpaa", sum := "6603cd363bd35b0512f6962b378e674237e7392cc43779f1d8adab85c2766a53", func := "virgation/virgationlaw19.FlowComes", spec := "flowComes", unfollowed := true, recurses := true, loops := true, plainKeys := false, apart := false, narrowed := true }
def FlowComesUptoSaid : Prop := flowComesUptoRow.holds Try.pinned (OpenSpec.upto flowComesSpec)

/-- 'virgationlaw19.FlowRuns', WHERE WHAT IT READS IS OF BULK AT MOST 1048576: true; the input reads as it did. -/
def flowRunsUptoRow : OpenClaim := { program := "ytoifckjdnldlpaa", sum := "6603cd363bd35b0512f6962b378e674237e7392cc43779f1d8adab85c2766a53", func := "virgation/virgationlaw19.FlowRuns", spec := "flowRuns", unfollowed := true, recurses := true, loops := true, plainKeys := false, apart := false, narrowed := true }
def FlowRunsUptoSaid : Prop := flowRunsUptoRow.holds Try.pinned (OpenSpec.upto flowRunsSpec)

end Rows
end Go.Proofs.Ytoifckjdnldlpaa
