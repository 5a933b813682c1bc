/-
  No cell of these rows narrows 'for every input' (looked for: loops, veiled, ifaces, maps, wideKeys, modest, calm, conditions, laid).
  DERIVED. THE GIVEN ROWS OF THIS SEAT. 8 by the template 'for every input the law returns true; each argument reads behind the call as it read before'; 0 by the template 'total and deterministic' (their statements: YtdogccgebgdlmaaTotals.lean).
  GIVEN WITH THE SEED: the statements are not yours to turn. If you find one false, say at which input.
  Laid BY PROGRAM, IN A SANDBOX (cutbox-rows.mjs): the forced cells as the released guide's own fill.sh prints them over the translation 44f92b04fb6dd181… (all of the seat's roots in one cut). By AI agents, Wed Nov 11 2026. No macro, syntax, notation, axiom, sorry.
-/
import Derived.Test.YtdogccgebgdlmaaChecked
import GoSem.Claim
import GoSem.ClaimJoined
import GoSem.ClaimMapViews
import Derived.JoinedTies
import Derived.KernelRfl
namespace Go.Proofs.Ytdogccgebgdlmaa
/- THE CELL 'sum', in the pinned program and in every row, IS THE sha256 OF THE DUMP (.gsa) THAT YtdogccgebgdlmaaProg.lean LOADS. Nothing in Lean hashes anything: it is a label: what it is worth is what the hold of that sum in a sandbox is worth. -/
noncomputable def Try.pinned : Pinned := { name := "ytdogccgebgdlmaa", sum := "44f92b04fb6dd181049a120df7acffe1b407fd7c5c7010f5a130e93a00256505", checked := Try.checked }
namespace Rows
def none {H : Type} : Left H := { results := [], args := [] }

/-- 'stooklaw08.VocabChecks': WHATEVER THE INPUT: true; the input reads as it did. -/
def vocabChecksSpec : ChangeSpec := { name := "vocabChecks", fn := fun _ => fun
  | [d] => { results := [.lit (.bool true)], args := [d] }
  | _ => none }
def vocabChecksRow : OpenClaim := { program := "ytdogccgebgdlmaa", sum := "44f92b04fb6dd181049a120df7acffe1b407fd7c5c7010f5a130e93a00256505", func := "stook/stooklaw08.VocabChecks", spec := "vocabChecks", unfollowed := true, recurses := true, plainKeys := false, apart := false }
def VocabChecksSaid : Prop := vocabChecksRow.holds Try.pinned (OpenSpec.ofChange vocabChecksSpec)

/-- ITS FALSE NEIGHBOUR: 'it returns false'. Refute it at one input. -/
def vocabChecksWrong : ChangeSpec := { name := "vocabChecks", fn := fun _ => fun
  | [d] => { results := [.lit (.bool false)], args := [d] }
  | _ => none }
def VocabChecksWrongFalsely : Prop := vocabChecksRow.holds Try.pinned (OpenSpec.ofChange vocabChecksWrong)

/-- 'stooklaw08.VocabPlain': WHATEVER THE INPUT: true; the input reads as it did. -/
def vocabPlainSpec : ChangeSpec := { name := "vocabPlain", fn := fun _ => fun
  | [d] => { results := [.lit (.bool true)], args := [d] }
  | _ => none }
def vocabPlainRow : OpenClaim := { program := "ytdogccgebgdlmaa", sum := "44f92b04fb6dd181049a120df7acffe1b407fd7c5c7010f5a130e93a00256505", func := "stook/stooklaw08.VocabPlain", spec := "vocabPlain", unfollowed := true, recurses := true, plainKeys := false, apart := false }
def VocabPlainSaid : Prop := vocabPlainRow.holds Try.pinned (OpenSpec.ofChange vocabPlainSpec)

/-- ITS FALSE NEIGHBOUR: 'it returns false'. Refute it at one input. -/
def vocabPlainWrong : ChangeSpec := { name := "vocabPlain", fn := fun _ => fun
  | [d] => { results := [.lit (.bool false)], args := [d] }
  | _ => none }
def VocabPlainWrongFalsely : Prop := vocabPlainRow.holds Try.pinned (OpenSpec.ofChange vocabPlainWrong)

/-- 'stooklaw08.VocabFresh': WHATEVER THE INPUT: true; the input reads as it did. -/
def vocabFreshSpec : ChangeSpec := { name := "vocabFresh", fn := fun _ => fun
  | [d1, d2] => { results := [.lit (.bool true)], args := [d1, d2] }
  | _ => none }
def vocabFreshRow : OpenClaim := { program := "ytdogccgebgdlmaa", sum := "44f92b04fb6dd181049a120df7acffe1b407fd7c5c7010f5a130e93a00256505", func := "stook/stooklaw08.VocabFresh", spec := "vocabFresh", unfollowed := true, recurses := true, plainKeys := false, apart := false }
def VocabFreshSaid : Prop := vocabFreshRow.holds Try.pinned (OpenSpec.ofChange vocabFreshSpec)

/-- ITS FALSE NEIGHBOUR: 'it returns false'. Refute it at one input. -/
def vocabFreshWrong : ChangeSpec := { name := "vocabFresh", fn := fun _ => fun
  | [d1, d2] => { results := [.lit (.bool false)], args := [d1, d2] }
  | _ => none }
def VocabFreshWrongFalsely : Prop := vocabFreshRow.holds Try.pinned (OpenSpec.ofChange vocabFreshWrong)

/-- 'stooklaw08.VocabRanks': WHATEVER THE INPUT: true; the input reads as it did. -/
def vocabRanksSpec : ChangeSpec := { name := "vocabRanks", fn := fun _ => fun
  | [d] => { results := [.lit (.bool true)], args := [d] }
  | _ => none }
def vocabRanksRow : OpenClaim := { program := "ytdogccgebgdlmaa", sum := "44f92b04fb6dd181049a120df7acffe1b407fd7c5c7010f5a130e93a00256505", func := "stook/stooklaw08.VocabRanks", spec := "vocabRanks", unfollowed := true, recurses := true, plainKeys := false, apart := false }
def VocabRanksSaid : Prop := vocabRanksRow.holds Try.pinned (OpenSpec.ofChange vocabRanksSpec)

/-- ITS FALSE NEIGHBOUR: 'it returns false'. Refute it at one input. -/
def vocabRanksWrong : ChangeSpec := { name := "vocabRanks", fn := fun _ => fun
  | [d] => { results := [.lit (.bool false)], args := [d] }
  | _ => none }
def VocabRanksWrongFalsely : Prop := vocabRanksRow.holds Try.pinned (OpenSpec.ofChange vocabRanksWrong)

/-- 'stooklaw08.VocabTokens': WHATEVER THE INPUT: true; the input reads as it did. -/
def vocabTokensSpec : ChangeSpec := { name := "vocabTokens", fn := fun _ => fun
  | [d1, d2, d3] => { results := [.lit (.bool true)], args := [d1, d2, d3] }
  | _ => none }
def vocabTokensRow : OpenClaim := { program := "ytdogccgebgdlmaa", sum := "44f92b04fb6dd181049a120df7acffe1b407fd7c5c7010f5a130e93a00256505", func := "stook/stooklaw08.VocabTokens", spec := "vocabTokens", unfollowed := true, recurses := true, plainKeys := false, apart := false }
def VocabTokensSaid : Prop := vocabTokensRow.holds Try.pinned (OpenSpec.ofChange vocabTokensSpec)

/-- ITS FALSE NEIGHBOUR: 'it returns false'. Refute it at one input. -/
def vocabTokensWrong : ChangeSpec := { name := "vocabTokens", fn := fun _ => fun
  | [d1, d2, d3] => { results := [.lit (.bool false)], args := [d1, d2, d3] }
  | _ => none }
def VocabTokensWrongFalsely : Prop := vocabTokensRow.holds Try.pinned (OpenSpec.ofChange vocabTokensWrong)

/-- 'stooklaw08.VocabFinds': WHATEVER THE INPUT: true; the input reads as it did. -/
def vocabFindsSpec : ChangeSpec := { name := "vocabFinds", fn := fun _ => fun
  | [d1, d2, d3] => { results := [.lit (.bool true)], args := [d1, d2, d3] }
  | _ => none }
def vocabFindsRow : OpenClaim := { program := "ytdogccgebgdlmaa", sum := "44f92b04fb6dd181049a120df7acffe1b407fd7c5c7010f5a130e93a00256505", func := "stook/stooklaw08.VocabFinds", spec := "vocabFinds", unfollowed := true, recurses := true, plainKeys := false, apart := false }
def VocabFindsSaid : Prop := vocabFindsRow.holds Try.pinned (OpenSpec.ofChange vocabFindsSpec)

/-- ITS FALSE NEIGHBOUR: 'it returns false'. Refute it at one input. -/
def vocabFindsWrong : ChangeSpec := { name := "vocabFinds", fn := fun _ => fun
  | [d1, d2, d3] => { results := [.lit (.bool false)], args := [d1, d2, d3] }
  | _ => none }
def VocabFindsWrongFalsely : Prop := vocabFindsRow.holds Try.pinned (OpenSpec.ofChange vocabFindsWrong)

/-- 'stooklaw08.VocabStays': WHATEVER THE INPUT: true; the input reads as it did. -/
def vocabStaysSpec : ChangeSpec := { name := "vocabStays", fn := fun _ => fun
  | [d1, d2, d3] => { results := [.lit (.bool true)], args := [d1, d2, d3] }
  | _ => none }
def vocabStaysRow : OpenClaim := { program := "ytdogccgebgdlmaa", sum := "44f92b04fb6dd181049a120df7acffe1b407fd7c5c7010f5a130e93a00256505", func := "stook/stooklaw08.VocabStays", spec := "vocabStays", unfollowed := true, recurses := true, plainKeys := false, apart := false }
def VocabStaysSaid : Prop := vocabStaysRow.holds Try.pinned (OpenSpec.ofChange vocabStaysSpec)

/-- ITS FALSE NEIGHBOUR: 'it returns false'. Refute it at one input. -/
def vocabStaysWrong : ChangeSpec := { name := "vocabStays", fn := fun _ => fun
  | [d1, d2, d3] => { results := [.lit (.bool false)], args := [d1, d2, d3] }
  | _ => none }
def VocabStaysWrongFalsely : Prop := vocabStaysRow.holds Try.pinned (OpenSpec.ofChange vocabStaysWrong)

/-- 'stooklaw08.VocabAll': WHATEVER THE INPUT: true; the input reads as it did. -/
def vocabAllSpec : ChangeSpec := { name := "vocabAll", fn := fun _ => fun
  | [d1, d2] => { results := [.lit (.bool true)], args := [d1, d2] }
  | _ => none }
def vocabAllRow : OpenClaim := { program := "ytdogccgebgdlmaa", sum := "44f92b04fb6dd181049a120df7acffe1b407fd7c5c7010f5a130e93a00256505", func := "stook/stooklaw08.VocabAll", spec := "vocabAll", unfollowed := true, recurses := true, plainKeys := false, apart := false }
def VocabAllSaid : Prop := vocabAllRow.holds Try.pinned (OpenSpec.ofChange vocabAllSpec)

/-- ITS FALSE NEIGHBOUR: 'it returns false'. Refute it at one input. -/
def vocabAllWrong : ChangeSpec := { name := "vocabAll", fn := fun _ => fun
  | [d1, d2] => { results := [.lit (.bool false)], args := [d1, d2] }
  | _ => none }
def VocabAllWrongFalsely : Prop := vocabAllRow.holds Try.pinned (OpenSpec.ofChange vocabAllWrong)

/- THE SECOND FORM. 'bulk': how many values and letters a reading holds, each counted each time it is reached (what is shared counts as often as it is met; a slice's spare places count too). A statement '..UptoSaid' is the law's where the arguments, and the package variables that the reading takes, are together of bulk at most 1048576: NARROWER than '..Said'. Prove '..Said' where nothing that the law and all that it calls make is longer than what came in: it says more and counts as full. Else prove '..UptoSaid'. A law counts once. -/
mutual
def uptoBulk {H : Type} : DataW H → Nat
  | .lit (.string bytes) => bytes.length + 1
  | .lit _ => 1
  | .nil => 1
  | .ptr d => uptoBulk d + 1
  | .slice elems spare => uptoBulkAll elems + uptoBulkAll spare + 1
  | .agg parts => uptoBulkAll parts + 1
  | .iface _ d => uptoBulk d + 1
  | .map entries => uptoBulkEntries entries + 1
  | .held _ => 1
def uptoBulkAll {H : Type} : List (DataW H) → Nat
  | [] => 0
  | d :: r => uptoBulk d + uptoBulkAll r
def uptoBulkEntries {H : Type} : List (Lit × DataW H) → Nat
  | [] => 0
  | x :: r => uptoBulkEntry x + uptoBulkEntries r
def uptoBulkEntry {H : Type} : Lit × DataW H → Nat
  | (.string bytes, d) => bytes.length + uptoBulk d + 1
  | (_, d) => uptoBulk d + 1
 end
def uptoSmall : (H : Type) → List (DataW H) → Bool := fun _ ds => decide (uptoBulkAll ds ≤ 1048576)
def OpenSpec.upto (s : _root_.Go.ChangeSpec) : _root_.Go.OpenSpec := { _root_.Go.OpenSpec.ofChange s with cond := some uptoSmall }

/-- 'stooklaw08.VocabChecks', WHERE WHAT IT READS IS OF BULK AT MOST 1048576: true; the input reads as it did. -/
def vocabChecksUptoRow : OpenClaim := { program := "ytdogccgebgdlmaa", sum := "44f92b04fb6dd181049a120df7acffe1b407fd7c5c7010f5a130e93a00256505", func := "stook/stooklaw08.VocabChecks", spec := "vocabChecks", unfollowed := true, recurses := true, plainKeys := false, apart := false, narrowed := true }
def VocabChecksUptoSaid : Prop := vocabChecksUptoRow.holds Try.pinned (OpenSpec.upto vocabChecksSpec)

/-- 'stooklaw08.VocabPlain', WHERE WHAT IT READS IS OF BULK AT MOST 1048576: true; the input reads as it did. -/
def vocabPlainUptoRow : OpenClaim := { program := "ytdogccgebgdlmaa", sum := "44f92b04fb6dd181049a120df7acffe1b407fd7c5c7010f5a130e93a00256505", func := "stook/stooklaw08.VocabPlain", spec := "vocabPlain", unfollowed := true, recurses := true, plainKeys := false, apart := false, narrowed := true }
def VocabPlainUptoSaid : Prop := vocabPlainUptoRow.holds Try.pinned (OpenSpec.upto vocabPlainSpec)

/-- 'stooklaw08.VocabFresh', WHERE WHAT IT READS IS OF BULK AT MOST 1048576: true; the input reads as it did. -/
def vocabFreshUptoRow : OpenClaim := { program := "ytdogccgebgdlmaa", sum := "44f92b04fb6dd181049a120df7acffe1b407fd7c5c7010f5a130e93a00256505", func := "stook/stooklaw08.VocabFresh", spec := "vocabFresh", unfollowed := true, recurses := true, plainKeys := false, apart := false, narrowed := true }
def VocabFreshUptoSaid : Prop := vocabFreshUptoRow.holds Try.pinned (OpenSpec.upto vocabFreshSpec)

/-- 'stooklaw08.VocabRanks', WHERE WHAT IT READS IS OF BULK AT MOST 1048576: true; the input reads as it did. -/
def vocabRanksUptoRow : OpenClaim := { program := "ytdogccgebgdlmaa", sum := "44f92b04fb6dd181049a120df7acffe1b407fd7c5c7010f5a130e93a00256505", func := "stook/stooklaw08.VocabRanks", spec := "vocabRanks", unfollowed := true, recurses := true, plainKeys := false, apart := false, narrowed := true }
def VocabRanksUptoSaid : Prop := vocabRanksUptoRow.holds Try.pinned (OpenSpec.upto vocabRanksSpec)

/-- 'stooklaw08.VocabTokens', WHERE WHAT IT READS IS OF BULK AT MOST 1048576: true; the input reads as it did. -/
def vocabTokensUptoRow : OpenClaim := { program := "ytdogccgebgdlmaa", sum := "44f92b04fb6dd181049a120df7acffe1b407fd7c5c7010f5a130e93a00256505", func := "stook/stooklaw08.VocabTokens", spec := "vocabTokens", unfollowed := true, recurses := true, plainKeys := false, apart := false, narrowed := true }
def VocabTokensUptoSaid : Prop := vocabTokensUptoRow.holds Try.pinned (OpenSpec.upto vocabTokensSpec)

/-- 'stooklaw08.VocabFinds', WHERE WHAT IT READS IS OF BULK AT MOST 1048576: true; the input reads as it did. -/
def vocabFindsUptoRow : OpenClaim := { program := "ytdogccgebgdlmaa", sum := "44f92b04fb6dd181049a120df7acffe1b407fd7c5c7010f5a130e93a00256505", func := "stook/stooklaw08.VocabFinds", spec := "vocabFinds", unfollowed := true, recurses := true, plainKeys := false, apart := false, narrowed := true }
def VocabFindsUptoSaid : Prop := vocabFindsUptoRow.holds Try.pinned (OpenSpec.upto vocabFindsSpec)

/-- 'stooklaw08.VocabStays', WHERE WHAT IT READS IS OF BULK AT MOST 1048576: true; the input reads as it did. -/
def vocabStaysUptoRow : OpenClaim := { program := "ytdogccgebgdlmaa", sum := "44f92b04fb6dd181049a120df7acffe1b407fd7c5c7010f5a130e93a00256505", func := "stook/stooklaw08.VocabStays", spec := "vocabStays", unfollowed := true, recurses := true, plainKeys := false, apart := false, narrowed := true }
def VocabStaysUptoSaid : Prop := vocabStaysUptoRow.holds Try.pinned (OpenSpec.upto vocabStaysSpec)

/-- 'stooklaw08.VocabAll', WHERE WHAT IT READS IS OF BULK AT MOST 1048576: true; the input reads as it did. -/
def vocabAllUptoRow : OpenClaim := { program := "ytdogccgebgdlmaa", sum := "44f92b04fb6dd181049a120df7acffe1b407fd7c5c7010f5a130e93a00256505", func := "stook/stooklaw08.VocabAll", spec := "vocabAll", unfollowed := true, recurses := true, plainKeys := false, apart := false, narrowed := true }
def VocabAllUptoSaid : Prop := vocabAllUptoRow.holds Try.pinned (OpenSpec.upto vocabAllSpec)

end Rows
end Go.Proofs.Ytdogccgebgdlmaa
