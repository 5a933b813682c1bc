/-
  No cell of these rows narrows 'for every input' (looked for: loops, veiled, ifaces, maps, wideKeys, modest, calm, conditions, laid).
  DERIVED. THE GIVEN ROWS OF THIS SEAT. 10 by the template 'for every input the law returns true; each argument reads behind the call as it read before'; 0 by the template 'total and deterministic' (their statements: YtildhlneldoffaaTotals.lean).
  GIVEN WITH THE SEED: the statements are not yours to turn. If you find one false, say at which input.
  Laid BY PROGRAM, IN A SANDBOX (cutbox-rows.mjs): the forced cells as the released guide's own fill.sh prints them over the translation 7233d6321a9f3e8c… (all of the seat's roots in one cut). By AI agents, Wed Nov 11 2026. No macro, syntax, notation, axiom, sorry.
-/
import Derived.Test.YtildhlneldoffaaChecked
import GoSem.Claim
import GoSem.ClaimJoined
import GoSem.ClaimMapViews
import Derived.JoinedTies
import Derived.KernelRfl
namespace Go.Proofs.Ytildhlneldoffaa
/- THE CELL 'sum', in the pinned program and in every row, IS THE sha256 OF THE DUMP (.gsa) THAT YtildhlneldoffaaProg.lean LOADS. Nothing in Lean hashes anything: it is a label: what it is worth is what the hold of that sum in a sandbox is worth. -/
noncomputable def Try.pinned : Pinned := { name := "ytildhlneldoffaa", sum := "7233d6321a9f3e8c9b4e2259d998f7b5875c52634abb2df494264eb9bf801890", checked := Try.checked }
namespace Rows
def none {H : Type} : Left H := { results := [], args := [] }

/-- 'stooklaw10.BpeEncodes': WHATEVER THE INPUT: true; the input reads as it did. -/
def bpeEncodesSpec : ChangeSpec := { name := "bpeEncodes", fn := fun _ => fun
  | [d1, d2] => { results := [.lit (.bool true)], args := [d1, d2] }
  | _ => none }
def bpeEncodesRow : OpenClaim := { program := "ytildhlneldoffaa", sum := "7233d6321a9f3e8c9b4e2259d998f7b5875c52634abb2df494264eb9bf801890", func := "stook/stooklaw10.BpeEncodes", spec := "bpeEncodes", unfollowed := true, recurses := true, plainKeys := false, apart := false }
def BpeEncodesSaid : Prop := bpeEncodesRow.holds Try.pinned (OpenSpec.ofChange bpeEncodesSpec)

/-- ITS FALSE NEIGHBOUR: 'it returns false'. Refute it at one input. -/
def bpeEncodesWrong : ChangeSpec := { name := "bpeEncodes", fn := fun _ => fun
  | [d1, d2] => { results := [.lit (.bool false)], args := [d1, d2] }
  | _ => none }
def BpeEncodesWrongFalsely : Prop := bpeEncodesRow.holds Try.pinned (OpenSpec.ofChange bpeEncodesWrong)

/-- 'stooklaw10.BpeDecodes': WHATEVER THE INPUT: true; the input reads as it did. -/
def bpeDecodesSpec : ChangeSpec := { name := "bpeDecodes", fn := fun _ => fun
  | [d1, d2] => { results := [.lit (.bool true)], args := [d1, d2] }
  | _ => none }
def bpeDecodesRow : OpenClaim := { program := "ytildhlneldoffaa", sum := "7233d6321a9f3e8c9b4e2259d998f7b5875c52634abb2df494264eb9bf801890", func := "stook/stooklaw10.BpeDecodes", spec := "bpeDecodes", unfollowed := true, recurses := true, plainKeys := false, apart := false }
def BpeDecodesSaid : Prop := bpeDecodesRow.holds Try.pinned (OpenSpec.ofChange bpeDecodesSpec)

/-- ITS FALSE NEIGHBOUR: 'it returns false'. Refute it at one input. -/
def bpeDecodesWrong : ChangeSpec := { name := "bpeDecodes", fn := fun _ => fun
  | [d1, d2] => { results := [.lit (.bool false)], args := [d1, d2] }
  | _ => none }
def BpeDecodesWrongFalsely : Prop := bpeDecodesRow.holds Try.pinned (OpenSpec.ofChange bpeDecodesWrong)

/-- 'stooklaw10.BpeBack': WHATEVER THE INPUT: true; the input reads as it did. -/
def bpeBackSpec : ChangeSpec := { name := "bpeBack", fn := fun _ => fun
  | [d1, d2] => { results := [.lit (.bool true)], args := [d1, d2] }
  | _ => none }
def bpeBackRow : OpenClaim := { program := "ytildhlneldoffaa", sum := "7233d6321a9f3e8c9b4e2259d998f7b5875c52634abb2df494264eb9bf801890", func := "stook/stooklaw10.BpeBack", spec := "bpeBack", unfollowed := true, recurses := true, plainKeys := false, apart := false }
def BpeBackSaid : Prop := bpeBackRow.holds Try.pinned (OpenSpec.ofChange bpeBackSpec)

/-- ITS FALSE NEIGHBOUR: 'it returns false'. Refute it at one input. -/
def bpeBackWrong : ChangeSpec := { name := "bpeBack", fn := fun _ => fun
  | [d1, d2] => { results := [.lit (.bool false)], args := [d1, d2] }
  | _ => none }
def BpeBackWrongFalsely : Prop := bpeBackRow.holds Try.pinned (OpenSpec.ofChange bpeBackWrong)

/-- 'stooklaw10.BpeMore': WHATEVER THE INPUT: true; the input reads as it did. -/
def bpeMoreSpec : ChangeSpec := { name := "bpeMore", fn := fun _ => fun
  | [d1, d2, d3, d4] => { results := [.lit (.bool true)], args := [d1, d2, d3, d4] }
  | _ => none }
def bpeMoreRow : OpenClaim := { program := "ytildhlneldoffaa", sum := "7233d6321a9f3e8c9b4e2259d998f7b5875c52634abb2df494264eb9bf801890", func := "stook/stooklaw10.BpeMore", spec := "bpeMore", unfollowed := true, recurses := true, plainKeys := false, apart := false }
def BpeMoreSaid : Prop := bpeMoreRow.holds Try.pinned (OpenSpec.ofChange bpeMoreSpec)

/-- ITS FALSE NEIGHBOUR: 'it returns false'. Refute it at one input. -/
def bpeMoreWrong : ChangeSpec := { name := "bpeMore", fn := fun _ => fun
  | [d1, d2, d3, d4] => { results := [.lit (.bool false)], args := [d1, d2, d3, d4] }
  | _ => none }
def BpeMoreWrongFalsely : Prop := bpeMoreRow.holds Try.pinned (OpenSpec.ofChange bpeMoreWrong)

/-- 'stooklaw10.BpeNone': WHATEVER THE INPUT: true; the input reads as it did. -/
def bpeNoneSpec : ChangeSpec := { name := "bpeNone", fn := fun _ => fun
  | [d1, d2] => { results := [.lit (.bool true)], args := [d1, d2] }
  | _ => none }
def bpeNoneRow : OpenClaim := { program := "ytildhlneldoffaa", sum := "7233d6321a9f3e8c9b4e2259d998f7b5875c52634abb2df494264eb9bf801890", func := "stook/stooklaw10.BpeNone", spec := "bpeNone", unfollowed := true, recurses := true, plainKeys := false, apart := false }
def BpeNoneSaid : Prop := bpeNoneRow.holds Try.pinned (OpenSpec.ofChange bpeNoneSpec)

/-- ITS FALSE NEIGHBOUR: 'it returns false'. Refute it at one input. -/
def bpeNoneWrong : ChangeSpec := { name := "bpeNone", fn := fun _ => fun
  | [d1, d2] => { results := [.lit (.bool false)], args := [d1, d2] }
  | _ => none }
def BpeNoneWrongFalsely : Prop := bpeNoneRow.holds Try.pinned (OpenSpec.ofChange bpeNoneWrong)

/-- 'stooklaw10.BpeBegins': WHATEVER THE INPUT: true; the input reads as it did. -/
def bpeBeginsSpec : ChangeSpec := { name := "bpeBegins", fn := fun _ => fun
  | [d1, d2] => { results := [.lit (.bool true)], args := [d1, d2] }
  | _ => none }
def bpeBeginsRow : OpenClaim := { program := "ytildhlneldoffaa", sum := "7233d6321a9f3e8c9b4e2259d998f7b5875c52634abb2df494264eb9bf801890", func := "stook/stooklaw10.BpeBegins", spec := "bpeBegins", unfollowed := true, recurses := true, plainKeys := false, apart := false }
def BpeBeginsSaid : Prop := bpeBeginsRow.holds Try.pinned (OpenSpec.ofChange bpeBeginsSpec)

/-- ITS FALSE NEIGHBOUR: 'it returns false'. Refute it at one input. -/
def bpeBeginsWrong : ChangeSpec := { name := "bpeBegins", fn := fun _ => fun
  | [d1, d2] => { results := [.lit (.bool false)], args := [d1, d2] }
  | _ => none }
def BpeBeginsWrongFalsely : Prop := bpeBeginsRow.holds Try.pinned (OpenSpec.ofChange bpeBeginsWrong)

/-- 'stooklaw10.BpeSplits': WHATEVER THE INPUT: true; the input reads as it did. -/
def bpeSplitsSpec : ChangeSpec := { name := "bpeSplits", fn := fun _ => fun
  | [d1, d2, d3, d4] => { results := [.lit (.bool true)], args := [d1, d2, d3, d4] }
  | _ => none }
def bpeSplitsRow : OpenClaim := { program := "ytildhlneldoffaa", sum := "7233d6321a9f3e8c9b4e2259d998f7b5875c52634abb2df494264eb9bf801890", func := "stook/stooklaw10.BpeSplits", spec := "bpeSplits", unfollowed := true, recurses := true, plainKeys := false, apart := false }
def BpeSplitsSaid : Prop := bpeSplitsRow.holds Try.pinned (OpenSpec.ofChange bpeSplitsSpec)

/-- ITS FALSE NEIGHBOUR: 'it returns false'. Refute it at one input. -/
def bpeSplitsWrong : ChangeSpec := { name := "bpeSplits", fn := fun _ => fun
  | [d1, d2, d3, d4] => { results := [.lit (.bool false)], args := [d1, d2, d3, d4] }
  | _ => none }
def BpeSplitsWrongFalsely : Prop := bpeSplitsRow.holds Try.pinned (OpenSpec.ofChange bpeSplitsWrong)

/-- 'stooklaw10.BpeSteps': WHATEVER THE INPUT: true; the input reads as it did. -/
def bpeStepsSpec : ChangeSpec := { name := "bpeSteps", fn := fun _ => fun
  | [d1, d2] => { results := [.lit (.bool true)], args := [d1, d2] }
  | _ => none }
def bpeStepsRow : OpenClaim := { program := "ytildhlneldoffaa", sum := "7233d6321a9f3e8c9b4e2259d998f7b5875c52634abb2df494264eb9bf801890", func := "stook/stooklaw10.BpeSteps", spec := "bpeSteps", unfollowed := true, recurses := true, plainKeys := false, apart := false }
def BpeStepsSaid : Prop := bpeStepsRow.holds Try.pinned (OpenSpec.ofChange bpeStepsSpec)

/-- ITS FALSE NEIGHBOUR: 'it returns false'. Refute it at one input. -/
def bpeStepsWrong : ChangeSpec := { name := "bpeSteps", fn := fun _ => fun
  | [d1, d2] => { results := [.lit (.bool false)], args := [d1, d2] }
  | _ => none }
def BpeStepsWrongFalsely : Prop := bpeStepsRow.holds Try.pinned (OpenSpec.ofChange bpeStepsWrong)

/-- 'stooklaw10.BpeLeast': WHATEVER THE INPUT: true; the input reads as it did. -/
def bpeLeastSpec : ChangeSpec := { name := "bpeLeast", fn := fun _ => fun
  | [d1, d2] => { results := [.lit (.bool true)], args := [d1, d2] }
  | _ => none }
def bpeLeastRow : OpenClaim := { program := "ytildhlneldoffaa", sum := "7233d6321a9f3e8c9b4e2259d998f7b5875c52634abb2df494264eb9bf801890", func := "stook/stooklaw10.BpeLeast", spec := "bpeLeast", unfollowed := true, recurses := true, plainKeys := false, apart := false }
def BpeLeastSaid : Prop := bpeLeastRow.holds Try.pinned (OpenSpec.ofChange bpeLeastSpec)

/-- ITS FALSE NEIGHBOUR: 'it returns false'. Refute it at one input. -/
def bpeLeastWrong : ChangeSpec := { name := "bpeLeast", fn := fun _ => fun
  | [d1, d2] => { results := [.lit (.bool false)], args := [d1, d2] }
  | _ => none }
def BpeLeastWrongFalsely : Prop := bpeLeastRow.holds Try.pinned (OpenSpec.ofChange bpeLeastWrong)

/-- 'stooklaw10.BpeFresh': WHATEVER THE INPUT: true; the input reads as it did. -/
def bpeFreshSpec : ChangeSpec := { name := "bpeFresh", fn := fun _ => fun
  | [d1, d2, d3] => { results := [.lit (.bool true)], args := [d1, d2, d3] }
  | _ => none }
def bpeFreshRow : OpenClaim := { program := "ytildhlneldoffaa", sum := "7233d6321a9f3e8c9b4e2259d998f7b5875c52634abb2df494264eb9bf801890", func := "stook/stooklaw10.BpeFresh", spec := "bpeFresh", unfollowed := true, recurses := true, plainKeys := false, apart := false }
def BpeFreshSaid : Prop := bpeFreshRow.holds Try.pinned (OpenSpec.ofChange bpeFreshSpec)

/-- ITS FALSE NEIGHBOUR: 'it returns false'. Refute it at one input. -/
def bpeFreshWrong : ChangeSpec := { name := "bpeFresh", fn := fun _ => fun
  | [d1, d2, d3] => { results := [.lit (.bool false)], args := [d1, d2, d3] }
  | _ => none }
def BpeFreshWrongFalsely : Prop := bpeFreshRow.holds Try.pinned (OpenSpec.ofChange bpeFreshWrong)

/- THE SECOND FORM. 'bulk': how many values and letters a reading holds, each counted each time it is reached (what is shared counts as often as it is met; a slice's spare places count too). A statement '..UptoSaid' is the law's where the arguments, and the package variables that the reading takes, are together of bulk at most 1048576: NARROWER than '..Said'. Prove '..Said' where nothing that the law and all that it calls make is longer than what came in: it says more and counts as full. Else prove '..UptoSaid'. A law counts once. -/
mutual
def uptoBulk {H : Type} : DataW H → Nat
  | .lit (.string bytes) => bytes.length + 1
  | .lit _ => 1
  | .nil => 1
  | .ptr d => uptoBulk d + 1
  | .slice elems spare => uptoBulkAll elems + uptoBulkAll spare + 1
  | .agg parts => uptoBulkAll parts + 1
  | .iface _ d => uptoBulk d + 1
  | .map entries => uptoBulkEntries entries + 1
  | .held _ => 1
def uptoBulkAll {H : Type} : List (DataW H) → Nat
  | [] => 0
  | d :: r => uptoBulk d + uptoBulkAll r
def uptoBulkEntries {H : Type} : List (Lit × DataW H) → Nat
  | [] => 0
  | x :: r => uptoBulkEntry x + uptoBulkEntries r
def uptoBulkEntry {H : Type} : Lit × DataW H → Nat
  | (.string bytes, d) => bytes.length + uptoBulk d + 1
  | (_, d) => uptoBulk d + 1
 end
def uptoSmall : (H : Type) → List (DataW H) → Bool := fun _ ds => decide (uptoBulkAll ds ≤ 1048576)
def OpenSpec.upto (s : _root_.Go.ChangeSpec) : _root_.Go.OpenSpec := { _root_.Go.OpenSpec.ofChange s with cond := some uptoSmall }

/-- 'stooklaw10.BpeEncodes', WHERE WHAT IT READS IS OF BULK AT MOST 1048576: true; the input reads as it did. -/
def bpeEncodesUptoRow : OpenClaim := { program := "ytildhlneldoffaa", sum := "7233d6321a9f3e8c9b4e2259d998f7b5875c52634abb2df494264eb9bf801890", func := "stook/stooklaw10.BpeEncodes", spec := "bpeEncodes", unfollowed := true, recurses := true, plainKeys := false, apart := false, narrowed := true }
def BpeEncodesUptoSaid : Prop := bpeEncodesUptoRow.holds Try.pinned (OpenSpec.upto bpeEncodesSpec)

/-- 'stooklaw10.BpeDecodes', WHERE WHAT IT READS IS OF BULK AT MOST 1048576: true; the input reads as it did. -/
def bpeDecodesUptoRow : OpenClaim := { program := "ytildhlneldoffaa", sum := "7233d6321a9f3e8c9b4e2259d998f7b5875c52634abb2df494264eb9bf801890", func := "stook/stooklaw10.BpeDecodes", spec := "bpeDecodes", unfollowed := true, recurses := true, plainKeys := false, apart := false, narrowed := true }
def BpeDecodesUptoSaid : Prop := bpeDecodesUptoRow.holds Try.pinned (OpenSpec.upto bpeDecodesSpec)

/-- 'stooklaw10.BpeBack', WHERE WHAT IT READS IS OF BULK AT MOST 1048576: true; the input reads as it did. -/
def bpeBackUptoRow : OpenClaim := { program := "ytildhlneldoffaa", sum := "7233d6321a9f3e8c9b4e2259d998f7b5875c52634abb2df494264eb9bf801890", func := "stook/stooklaw10.BpeBack", spec := "bpeBack", unfollowed := true, recurses := true, plainKeys := false, apart := false, narrowed := true }
def BpeBackUptoSaid : Prop := bpeBackUptoRow.holds Try.pinned (OpenSpec.upto bpeBackSpec)

/-- 'stooklaw10.BpeMore', WHERE WHAT IT READS IS OF BULK AT MOST 1048576: true; the input reads as it did. -/
def bpeMoreUptoRow : OpenClaim := { program := "ytildhlneldoffaa", sum := "7233d6321a9f3e8c9b4e2259d998f7b5875c52634abb2df494264eb9bf801890", func := "stook/stooklaw10.BpeMore", spec := "bpeMore", unfollowed := true, recurses := true, plainKeys := false, apart := false, narrowed := true }
def BpeMoreUptoSaid : Prop := bpeMoreUptoRow.holds Try.pinned (OpenSpec.upto bpeMoreSpec)

/-- 'stooklaw10.BpeNone', WHERE WHAT IT READS IS OF BULK AT MOST 1048576: true; the input reads as it did. -/
def bpeNoneUptoRow : OpenClaim := { program := "ytildhlneldoffaa", sum := "7233d6321a9f3e8c9b4e2259d998f7b5875c52634abb2df494264eb9bf801890", func := "stook/stooklaw10.BpeNone", spec := "bpeNone", unfollowed := true, recurses := true, plainKeys := false, apart := false, narrowed := true }
def BpeNoneUptoSaid : Prop := bpeNoneUptoRow.holds Try.pinned (OpenSpec.upto bpeNoneSpec)

/-- 'stooklaw10.BpeBegins', WHERE WHAT IT READS IS OF BULK AT MOST 1048576: true; the input reads as it did. -/
def bpeBeginsUptoRow : OpenClaim := { program := "ytildhlneldoffaa", sum := "7233d6321a9f3e8c9b4e2259d998f7b5875c52634abb2df494264eb9bf801890", func := "stook/stooklaw10.BpeBegins", spec := "bpeBegins", unfollowed := true, recurses := true, plainKeys := false, apart := false, narrowed := true }
def BpeBeginsUptoSaid : Prop := bpeBeginsUptoRow.holds Try.pinned (OpenSpec.upto bpeBeginsSpec)

/-- 'stooklaw10.BpeSplits', WHERE WHAT IT READS IS OF BULK AT MOST 1048576: true; the input reads as it did. -/
def bpeSplitsUptoRow : OpenClaim := { program := "ytildhlneldoffaa", sum := "7233d6321a9f3e8c9b4e2259d998f7b5875c52634abb2df494264eb9bf801890", func := "stook/stooklaw10.BpeSplits", spec := "bpeSplits", unfollowed := true, recurses := true, plainKeys := false, apart := false, narrowed := true }
def BpeSplitsUptoSaid : Prop := bpeSplitsUptoRow.holds Try.pinned (OpenSpec.upto bpeSplitsSpec)

/-- 'stooklaw10.BpeSteps', WHERE WHAT IT READS IS OF BULK AT MOST 1048576: true; the input reads as it did. -/
def bpeStepsUptoRow : OpenClaim := { program := "ytildhlneldoffaa", sum := "7233d6321a9f3e8c9b4e2259d998f7b5875c52634abb2df494264eb9bf801890", func := "stook/stooklaw10.BpeSteps", spec := "bpeSteps", unfollowed := true, recurses := true, plainKeys := false, apart := false, narrowed := true }
def BpeStepsUptoSaid : Prop := bpeStepsUptoRow.holds Try.pinned (OpenSpec.upto bpeStepsSpec)

/-- 'stooklaw10.BpeLeast', WHERE WHAT IT READS IS OF BULK AT MOST 1048576: true; the input reads as it did. -/
def bpeLeastUptoRow : OpenClaim := { program := "ytildhlneldoffaa", sum := "7233d6321a9f3e8c9b4e2259d998f7b5875c52634abb2df494264eb9bf801890", func := "stook/stooklaw10.BpeLeast", spec := "bpeLeast", unfollowed := true, recurses := true, plainKeys := false, apart := false, narrowed := true }
def BpeLeastUptoSaid : Prop := bpeLeastUptoRow.holds Try.pinned (OpenSpec.upto bpeLeastSpec)

/-- 'stooklaw10.BpeFresh', WHERE WHAT IT READS IS OF BULK AT MOST 1048576: true; the input reads as it did. -/
def bpeFreshUptoRow : OpenClaim := { program := "ytildhlneldoffaa", sum := "7233d6321a9f3e8c9b4e2259d998f7b5875c52634abb2df494264eb9bf801890", func := "stook/stooklaw10.BpeFresh", spec := "bpeFresh", unfollowed := true, recurses := true, plainKeys := false, apart := false, narrowed := true }
def BpeFreshUptoSaid : Prop := bpeFreshUptoRow.holds Try.pinned (OpenSpec.upto bpeFreshSpec)

end Rows
end Go.Proofs.Ytildhlneldoffaa
